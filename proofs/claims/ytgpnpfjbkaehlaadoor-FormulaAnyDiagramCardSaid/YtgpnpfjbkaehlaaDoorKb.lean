/- The walks of diagrams: Check, the numbering, the reference's operations. -/
import Derived.Laws.EntriesVeiled
import Derived.Deep.RegionHeld3
import Derived.Deep.DrawnRows
import Derived.Test.YtgpnpfjbkaehlaaDoorKz
import Derived.Test.YtgpnpfjbkaehlaaDoorTa
namespace Go.Proofs.YtgpnpfjbkaehlaaDoor.Wk
open Go.RowKit Go.Shelf Go.Lib Go.Maps Go.Proofs.YtgpnpfjbkaehlaaDoorW.PrintWords Go.Proofs.YtgpnpfjbkaehlaaDoorW.PrintLast Go.Proofs.YtgpnpfjbkaehlaaDoorW.PrintMore Go.Proofs.YtgpnpfjbkaehlaaDoor.Nt
set_option linter.unusedVariables false
set_option linter.unusedSimpArgs false

/-- Block b is a map that looks up as the function says. -/
def MapIs (P : Program) (k e : TypeId) {κ β : Type} (kv : κ → Value) (en : β → Lit) (zb : β) (W : World) (b n : Nat) (look : κ → Option β) : Prop :=
  ∃ D : DataW Unit, W.ownsMap P k (plainElem P e) b n D ∧ ∀ x l, keyOf P k (kv x) = some l → Maps.has D l = (look x).isSome ∧ D.atKey l (.lit (en zb)) = .lit (en ((look x).getD zb))

section
variable {P : Program} {k e t : TypeId} {κ β : Type} {kv : κ → Value} {en : β → Lit} {zb : β} {W : World} {b n : Nat} {look : κ → Option β}

theorem MapIs.made (w : World) : MapIs P k e kv en zb (w.alloc (.map #[] 0)) w.heap.size 0 (fun _ => none) :=
  ⟨_, World.ownsMap_made _ _ _ _, fun x l _ => ⟨rfl, rfl⟩⟩
theorem MapIs.made_at (w : World) {g : Nat} (hg : w.heap.size = g) : MapIs P k e kv en zb (w.alloc (.map #[] 0)) g 0 (fun _ => none) := by subst hg; exact MapIs.made w
theorem MapIs.lt (h : MapIs P k e kv en zb W b n look) : b < W.heap.size := by obtain ⟨D, h, _⟩ := h; exact h.lt
theorem MapIs.blk {W' : World} (h : MapIs P k e kv en zb W b n look) (hb : W'.heap[b]? = W.heap[b]?) : MapIs P k e kv en zb W' b n look := by
  obtain ⟨D, ⟨es, cl, h1, h2⟩, h3⟩ := h
  exact ⟨D, ⟨es, cl, hb.trans h1, h2⟩, h3⟩
theorem MapIs.obj (h : MapIs P k e kv en zb W b n look) : ∃ es cl, W.heap[b]? = some (.map es cl) := by
  obtain ⟨D, ⟨es, cl, h1, h2⟩, h3⟩ := h
  exact ⟨es, cl, h1⟩
theorem MapIs.mono (h : MapIs P k e kv en zb W b n look) {m : Nat} (hm : n ≤ m) : MapIs P k e kv en zb W b m look := by
  obtain ⟨D, h1, h3⟩ := h
  exact ⟨D, h1.mono hm, h3⟩

theorem MapIs.put [DecidableEq κ] {D : DataW Unit} (law : Keyed P k) (hk : ∀ x y : κ, kv x = kv y → x = y) {x : κ} {v : β} {l : Lit} (hx : keyOf P k (kv x) = some l) (hT : W.ownsMap P k (plainElem P e) b n D)
    (hD : ∀ x l, keyOf P k (kv x) = some l → Maps.has D l = (look x).isSome ∧ D.atKey l (.lit (en zb)) = .lit (en ((look x).getD zb))) :
    ∀ y l', keyOf P k (kv y) = some l' → Maps.has (D.put l (.lit (en v))) l' = ((fun y => if y = x then some v else look y) y).isSome ∧ (D.put l (.lit (en v))).atKey l' (.lit (en zb)) = .lit (en (((fun y => if y = x then some v else look y) y).getD zb)) := by
  intro y l' hy
  by_cases hyx : y = x
  · subst hyx
    rw [hx] at hy
    injection hy with hy
    subst hy
    simp only [if_true]
    rw [Maps.has_put_same hT.isMap (law.key hx), Maps.atKey_put_same hT.isMap (law.key hx)]
    exact ⟨rfl, rfl⟩
  · have hne : l' ≠ l := by
      rintro rfl
      exact hyx (hk _ _ (law.inj hy hx))
    simp only [if_neg hyx]
    rw [Maps.has_put_other hne, Maps.atKey_put_other hne]
    exact hD y l' hy

/-- A look-up without ok, as an equation. -/
theorem MapIs.look_run {t : TypeId} (hM : MapIs P k e kv en zb W b n look) (law : Keyed P k) (ht : P.underlying t = some (.map k e)) {z : Value} (hz : (zeroValue e).run P W = .ok z W) (hzd : plainElem (H := Unit) P e z = some (.lit (en zb), []))
    (kx : κ) (kl : Lit) (hkey : keyOf P k (kv kx) = some kl) (r : β) (hr : (look kx).getD zb = r) (cv : Value)
    (hinv : ∀ v ps, plainElem (H := Unit) P e v = some (.lit (en r), ps) → v = cv) : (Instr.lookup t (.map (some b)) (kv kx) false).run P W = .ok cv W := by
  obtain ⟨D, hown, hD⟩ := hM
  obtain ⟨v, ps, hrun, hv⟩ := hown.lookup law ht hz hzd hkey
  rw [(hD kx kl hkey).2, hr] at hv
  rw [hinv v ps hv] at hrun
  exact hrun

variable (w : World) {ops : Array Oper} {rest : List Oper} {o : Oper} {a : Act} {Q : Exit → Act → World → Prop}

/-- A look-up with ok. -/
theorem wp_look_ok (hg : o.guard = none) (m x : Operand) (t : TypeId) (hop : o.op = Op.lookup t m x true)
    (law : Keyed P k) (ht : P.underlying t = some (.map k e)) {z : Value} (hz : (zeroValue e).run P w = .ok z w) (hzd : plainElem (H := Unit) P e z = some (.lit (en zb), []))
    (hM : MapIs P k e kv en zb w b n look) (hm : a.eval m = .map (some b)) (kx : κ) (kl : Lit) (hx : a.eval x = kv kx) (hkey : keyOf P k (kv kx) = some kl) (r : Option β) (hr : look kx = r) (cv : Value)
    (hinv : ∀ v ps, plainElem (H := Unit) P e v = some (.lit (en (r.getD zb)), ps) → v = cv)
    (hK : wpList P ops Q rest (a.put o.dst (.tuple #[cv, .bool r.isSome])) w) :
    wpList P ops Q (o :: rest) a w := by
  obtain ⟨D, hown, hD⟩ := hM
  refine wpList_lookup_own_ok w hg m x t hop k e law ht _ hz _ [] hzd b n D hm hown _ kl hx hkey ?_
  intro v ps hv
  obtain ⟨h1, h2⟩ := hD kx kl hkey
  rw [h2, hr] at hv
  rw [h1, hr, hinv v ps hv]
  exact hK

/-- A look-up without ok. -/
theorem wp_look (hg : o.guard = none) (m x : Operand) (t : TypeId) (hop : o.op = Op.lookup t m x false)
    (law : Keyed P k) (ht : P.underlying t = some (.map k e)) {z : Value} (hz : (zeroValue e).run P w = .ok z w) (hzd : plainElem (H := Unit) P e z = some (.lit (en zb), []))
    (hM : MapIs P k e kv en zb w b n look) (hm : a.eval m = .map (some b)) (kx : κ) (kl : Lit) (hx : a.eval x = kv kx) (hkey : keyOf P k (kv kx) = some kl) (r : β) (hr : (look kx).getD zb = r) (cv : Value)
    (hinv : ∀ v ps, plainElem (H := Unit) P e v = some (.lit (en r), ps) → v = cv)
    (hK : wpList P ops Q rest (a.put o.dst cv) w) :
    wpList P ops Q (o :: rest) a w := by
  obtain ⟨D, hown, hD⟩ := hM
  refine wpList_plain hg fun K' hK' => ?_
  obtain ⟨v, ps, hrun, hv⟩ := hown.lookup law ht hz hzd hkey
  rw [(hD kx kl hkey).2, hr] at hv
  rw [hinv v ps hv] at hrun
  unfold Oper.wp
  simp [execOp, hop, hm, hx, hrun, Result.andThen]
  exact hK' _ _ hK

/-- A store. -/
theorem wp_mapput [DecidableEq κ] (hg : o.guard = none) (m x v : Operand) (t : TypeId) (hop : o.op = Op.mapUpdate t m x v)
    (law : Keyed P k) (ht : P.underlying t = some (.map k e)) (hk : ∀ x y : κ, kv x = kv y → x = y)
    (hM : MapIs P k e kv en zb w b n look) (hn : n < maxLen) (hm : a.eval m = .map (some b)) (kx : κ) (c : β) (cv : Value) (kl : Lit) (hx : a.eval x = kv kx) (hv : a.eval v = cv) (hkey : keyOf P k (kv kx) = some kl)
    (hval : plainElem (H := Unit) P e cv = some (.lit (en c), []))
    (hK : ∀ w', MapIs P k e kv en zb w' b (n + 1) (fun y => if y = kx then some c else look y) → w.mapTurned w' b → wpList P ops Q rest (a.put o.dst undef) w') :
    wpList P ops Q (o :: rest) a w := by
  obtain ⟨D, hown, hD⟩ := hM
  refine wpList_mapUpdate_in w hg m x v t hop k e law ht _ b n D hm hown hn _ _ kl hx hv hkey _ [] hval ?_
  intro w' h1 h2
  exact hK w' ⟨_, h1, MapIs.put law hk hkey hown hD⟩ h2

/-- An entry of a literal. -/
theorem wp_mapins [DecidableEq κ] (hg : o.guard = none) (m x v : Operand) (t : TypeId) (hop : o.op = Op.insert t m x v)
    (law : Keyed P k) (ht : P.underlying t = some (.map k e)) (hk : ∀ x y : κ, kv x = kv y → x = y)
    (hM : MapIs P k e kv en zb w b n look) (hn : n < maxLen) (hm : a.eval m = .map (some b)) (kx : κ) (c : β) (cv : Value) (kl : Lit) (hx : a.eval x = kv kx) (hv : a.eval v = cv) (hkey : keyOf P k (kv kx) = some kl)
    (hval : plainElem (H := Unit) P e cv = some (.lit (en c), []))
    (hK : ∀ w', MapIs P k e kv en zb w' b (n + 1) (fun y => if y = kx then some c else look y) → w.mapTurned w' b → wpList P ops Q rest (a.put o.dst undef) w') :
    wpList P ops Q (o :: rest) a w := by
  obtain ⟨D, hown, hD⟩ := hM
  refine wpList_plain hg fun K' hK' => ?_
  obtain ⟨w', hrun, r1, r2⟩ := hown.store law ht hn hkey hval
  unfold Oper.wp
  simp [execOp, hop, hm, hx, hv, hrun, Result.andThen]
  exact hK' _ _ (hK w' ⟨_, r1, MapIs.put law hk hkey hown hD⟩ r2)
end

/-- An append at a step of a list, in the words of a kind. -/
theorem list_append_R {P : Program} {ops : Array Oper} {rest : List Oper} {o : Oper} {a : Act} {w : World} {Q : Exit → Act → World → Prop} {α : Type} (d : Kd α)
    (hg : o.guard = none) (s x : Operand) (t e : TypeId) (z : Value) (bytes : Nat)
    (ho : o.op = .call { callee := .builtin .append, args := #[s, x], argTypes := #[t, t] })
    (ht : P.underlying t = some (.slice e)) (hinfo : (P.info? e).map (fun i => (i.zero, i.size, i.bytes)) = some (some z, d.sz, bytes)) (hz : z.cells.size = d.sz) (hs0 : 0 < d.sz)
    (v : Value) (xs : List α) (p : α) (cs : List Value) (ok okp : Nat → Prop) (hs : a.eval s = v) (ad : Addr) (hx : a.eval x = .slice (some ad) 1 1) (hcs : ∀ j u, cs[j]? = some u → w.cell? (ad.add j) = some u)
    (hp : d.M w 0 okp p cs) (hokp : ∀ k, okp k → ok k ∧ some k ≠ v.ownBlock) (hfresh : ∀ k, w.heap.size ≤ k → ok k)
    (HO : d.R e w 0 ok v xs) (hl : (xs.length + 1) * bytes ≤ 140737488355328) (hb0 : 0 < bytes)
    (h : ∀ g cap w1, d.R e w1 0 ok (.slice (some ⟨g, 0, none⟩) (xs.length + 1) cap) (xs ++ [p]) → w.grownBy w1 v.ownBlock → (v.ownBlock = some g ∨ g = w.heap.size) → g < w1.heap.size → wpList P ops Q rest (a.put o.dst (.slice (some ⟨g, 0, none⟩) (xs.length + 1) cap)) w1) :
    wpList P ops Q (o :: rest) a w := by
  refine wpList_plain hg fun K' hK' => ?_
  have := step_append_R (E := True) (ops := ops) (Q := Q) (K := K') d hg s x t e z bytes ho ht hinfo hz hs0 v xs p cs ok okp hs ad hx hcs hp hokp hfresh HO hl hb0 (fun g cap w1 h1 h2 h3 h4 => hK' _ _ (h g cap w1 h1 h2 h3 h4))
  rwa [if_pos (by simp [Region.wanted, hg])] at this

/-- The cells of a new block. -/
theorem new_cells0 (w : World) (cs : List Value) (t : TypeId) (H : Nat) (hH : w.heap.size = H) : ∀ (j : Nat) (u : Value), cs[j]? = some u → (w.alloc (.cells cs.toArray t)).cell? ((⟨H, 0, none⟩ : Addr).add j) = some u := new_cells w cs t H hH

/-- Of the blocks that were there only the owned ones may have turned; what is owned behind it was owned or is new. -/
def TurnO (O : Nat → Prop) (w : World) (O' : Nat → Prop) (w' : World) : Prop :=
  Kept w w' O ∧ (∀ i, O' i → O i ∨ w.heap.size ≤ i) ∧ Below 0 w w'

theorem TurnO.refl (O : Nat → Prop) (w : World) : TurnO O w O w := ⟨Kept.refl _ _, fun i h => .inl h, Below.refl _ _⟩
theorem TurnO.trans {O O1 O2 : Nat → Prop} {w w1 w2 : World} (h : TurnO O w O1 w1) (k : TurnO O1 w1 O2 w2) : TurnO O w O2 w2 := by
  refine ⟨h.1.then_ k.1 h.2.1, fun i hi => ?_, h.2.2.trans k.2.2⟩
  rcases k.2.1 i hi with hi | hi
  · exact h.2.1 i hi
  · exact .inr (Nat.le_trans h.1.1 hi)
theorem TurnO.size {O O1 : Nat → Prop} {w w1 : World} (h : TurnO O w O1 w1) : w.heap.size ≤ w1.heap.size := h.1.1
theorem TurnO.below {O O1 : Nat → Prop} {w w1 w2 : World} (h : TurnO O w O1 w1) (hb : Below w1.heap.size w1 w2) : TurnO O w O1 w2 := ⟨h.1.below hb, h.2.1, h.2.2.trans (below_zero hb)⟩
theorem below_turnO {O O1 : Nat → Prop} {w w1 w2 : World} (hb : Below w.heap.size w w1) (h : TurnO O w1 O1 w2) : TurnO O w O1 w2 :=
  ⟨(Kept.of_below hb _).then_ h.1 (fun k hk => .inl hk), fun i hi => (h.2.1 i hi).imp id (fun h => Nat.le_trans hb.size h), (below_zero hb).trans h.2.2⟩
theorem TurnO.blk {O O1 : Nat → Prop} {w w1 : World} {g : Nat} {o : Obj} (h : TurnO O w O1 w1) (hb : w.heap[g]? = some o) (h1 : ¬ O g) : w1.heap[g]? = some o := blk_kept hb h.1 h1
theorem TurnO.same {O O1 : Nat → Prop} {w w1 : World} {g : Nat} (h : TurnO O w O1 w1) (hl : g < w.heap.size) (h1 : ¬ O g) : w1.heap[g]? = w.heap[g]? := h.1.2 g hl h1
theorem TurnO.set {O O1 : Nat → Prop} {w w1 : World} (h : TurnO O w O1 w1) {p : Addr} (hp : O p.block ∨ w.heap.size ≤ p.block) (v : Value) : TurnO O w O1 (w1.setCell p v) := ⟨h.1.setCell hp v, h.2.1, h.2.2.setCell (Nat.zero_le _) _⟩
theorem TurnO.grown {O O1 O2 : Nat → Prop} {w w1 w2 : World} {row : Option Nat} (h : TurnO O w O1 w1) (hg : w1.grownBy w2 row) (hr : ∀ i, row = some i → O i ∨ w.heap.size ≤ i) (ho : ∀ i, O2 i → O i ∨ w.heap.size ≤ i) : TurnO O w O2 w2 :=
  ⟨Kept.of_grown hg h.1 hr, ho, h.2.2.trans ⟨hg.os, hg.tape, hg.output, hg.size, fun i hi => absurd hi (Nat.not_lt_zero _)⟩⟩
theorem TurnO.own {O O1 : Nat → Prop} {w w1 : World} {B : Nat} (h : TurnO O w O1 w1) (hB : B ≤ w.heap.size) (ho : ∀ i, O i → B ≤ i) : Below B w w1 := by
  refine ⟨h.2.2.os, h.2.2.tape, h.2.2.output, h.2.2.size, fun i hi => ?_⟩
  refine h.1.2 i (by omega) ?_
  intro hk
  have := ho i hk
  omega
end Go.Proofs.YtgpnpfjbkaehlaaDoor.Wk
namespace Go.Proofs.YtgpnpfjbkaehlaaDoor.Wk
open Go.RowKit Go.Shelf Go.Lib Go.Maps Go.Proofs.YtgpnpfjbkaehlaaDoorW.PrintWords Go.Proofs.YtgpnpfjbkaehlaaDoorW.PrintLast Go.Proofs.YtgpnpfjbkaehlaaDoorW.PrintMore Go.Proofs.YtgpnpfjbkaehlaaDoor.Nt Go.Proofs.YtgpnpfjbkaehlaaDoor.Fm
set_option linter.unusedVariables false
set_option linter.unusedSimpArgs false

theorem lawInt : Keyed Tryd.prog 3 := int_keyed Tryd.underlying3
theorem zeroE (w : World) : (zeroValue 3).run Tryd.prog w = .ok (.int .i64 0) w := by kernel_rfl
theorem keyInt {x : Int} (h : (Lit.int .i64 x).wf = true) : keyOf Tryd.prog 3 (.int .i64 x) = some (.int .i64 x) := Maps.keyOf_int_mk Tryd.underlying3 h
theorem elInt {x : Int} (h : (Lit.int .i64 x).wf = true) : plainElem (H := Unit) Tryd.prog 3 (.int .i64 x) = some (.lit (.int .i64 x), []) := plainElem_int Tryd.underlying3 h
theorem elInt_inv {x : Int} : ∀ v ps, plainElem (H := Unit) Tryd.prog 3 v = some (.lit (.int .i64 x), ps) → v = .int .i64 x := by
  intro v ps h
  obtain ⟨c, rfl, hc, _⟩ := plainElem_int_inv Tryd.underlying3 h
  have h1 : (DataW.lit (.int .i64 x) : DataW Unit) = .lit (.int .i64 c) := congrArg Prod.fst hc
  have h2 := DataW.lit.inj h1
  rw [(Lit.int.inj h2).2]
theorem int_inj : ∀ x y : Int, Value.int .i64 x = Value.int .i64 y → x = y := fun x y h => (Value.int.inj h).2

/-- A map of ints to ints. -/
abbrev MII (W : World) (b n : Nat) (look : Int → Option Int) : Prop := MapIs Tryd.prog 3 3 (Value.int .i64) (Lit.int .i64) 0 W b n look

def num0 : Int → Option Int := fun y => if y = 1 then some 1 else if y = 0 then some 0 else none

/-- What a walk of the branches goes on, and what it has done. -/
structure VI (A : Option Addr) (c pb : Nat) (kn : Value) (nodes : List Br) (w0 : World) (b2 b5 b6 b7 mb NB : Nat) (W : World) (fv : Value) (s : VS) : Prop where
  bel : Below w0.heap.size w0 W
  nb : NB ≤ W.heap.size
  h2 : W.heap[b2]? = some (.cells #[.pointer (some ⟨pb, 0, none⟩)] 97 (0, 0))
  h5 : W.heap[b5]? = some (.cells #[fv, .int .i64 0] 30 (0, 0))
  h6 : W.heap[b6]? = some (.cells #[.map (some mb)] 126 (0, 0))
  h7 : W.heap[b7]? = some (.cells #[.func (.func 86) #[] #[.pointer (some ⟨b6, 0, none⟩), .pointer (some ⟨b2, 0, none⟩), .pointer (some ⟨b7, 0, none⟩), .pointer (some ⟨b5, 0, none⟩)]] 71 (0, 0))
  row : k74.R 74 W 0 (fun k => NB ≤ k) fv s.out
  map : MII W mb (s.out.length + 2) s.num

/-- The blocks that a walk owns. -/
def VO (b5 mb : Nat) (fv : Value) : Nat → Prop := fun k => k = b5 ∨ k = mb ∨ some k = fv.ownBlock

theorem VI.fv_lt {A : Option Addr} {c pb : Nat} {kn : Value} {nodes : List Br} {w0 : World} {b2 b5 b6 b7 mb NB : Nat} {W : World} {fv : Value} {s : VS} (h : VI A c pb kn nodes w0 b2 b5 b6 b7 mb NB W fv s) : ∀ k, some k = fv.ownBlock → NB ≤ k ∧ k < W.heap.size := by
  intro k hk
  refine ⟨h.row.1 k hk.symm, ?_⟩
  obtain ⟨cells, hc⟩ := own_typed (Kd.R_own h.row).choose_spec k hk.symm
  exact blk_lt hc

theorem VI.below {A : Option Addr} {c pb : Nat} {kn : Value} {nodes : List Br} {w0 : World} {b2 b5 b6 b7 mb NB : Nat} {W W' : World} {fv : Value} {s : VS} (h : VI A c pb kn nodes w0 b2 b5 b6 b7 mb NB W fv s) (hb : Below W.heap.size W W') : VI A c pb kn nodes w0 b2 b5 b6 b7 mb NB W' fv s :=
  ⟨h.bel.trans (hb.mono h.bel.size), Nat.le_trans h.nb hb.size, blk_below h.h2 hb, blk_below h.h5 hb, blk_below h.h6 hb, blk_below h.h7 hb, Kd.R_below h.row hb, h.map.blk (hb.block _ h.map.lt)⟩

/-- What a visit is called with, and what it comes to. -/
def VisC (A : Option Addr) (c pb : Nat) (kn : Value) (nodes : List Br) (w0 : World) (b2 b5 b6 b7 mb NB k : Nat) : Prop :=
  ∀ (n : Int) (s : VS) (W : World) (fv : Value), VI A c pb kn nodes w0 b2 b5 b6 b7 mb NB W fv s → s.Ok → 0 ≤ n → n < k → n < nodes.length + 2 → (visP nodes k n s).2.out.length < 4294967296 →
    Calls Tryd.prog 86 #[.int .i64 n, .pointer (some ⟨b6, 0, none⟩), .pointer (some ⟨b2, 0, none⟩), .pointer (some ⟨b7, 0, none⟩), .pointer (some ⟨b5, 0, none⟩)] W fun e w' =>
      e = .returned (.int .i64 (visP nodes k n s).1) ∧ ∃ fv', VI A c pb kn nodes w0 b2 b5 b6 b7 mb NB w' fv' (visP nodes k n s).2 ∧ TurnO (VO b5 mb fv) W (VO b5 mb fv') w'

theorem at_br {w : World} {A : Option Addr} {f : List Br} (h : k74.C w A f.length f) {i : Nat} {x : Br} (hx : f[i]? = some x) :
    ∃ ad, A = some ad ∧ i < f.length ∧ w.cell? (ad.add (i * 3)) = some (.int .i64 x.f0) ∧ w.cell? ⟨(ad.add (i * 3)).block, (ad.add (i * 3)).off + 1, none⟩ = some (.int .i64 x.f1) ∧ w.cell? ⟨(ad.add (i * 3)).block, (ad.add (i * 3)).off + 2, none⟩ = some (.int .i64 x.f2) := by
  have hlt : i < f.length := (List.getElem?_eq_some_iff.1 hx).1
  obtain ⟨ad, e, h0, h1, h2⟩ := at_T74 h (i : Int) (by omega) (by omega)
  have hr : rd_T74 f (i : Int) = x := by simp [rd_T74, List.getD_eq_getElem?_getD, hx]
  rw [hr] at h0 h1 h2
  simp only [Int.toNat_natCast] at h0 h1 h2
  exact ⟨ad, e, hlt, h0, h1, h2⟩

set_option maxHeartbeats 4000000 in
set_option maxRecDepth 100000 in
theorem vis_step (A : Option Addr) (c pb : Nat) (kn : Value) (nodes : List Br) (w0 : World) (b2 b5 b6 b7 mb NB k : Nat) (hC : k74.C w0 A nodes.length nodes) (hc : nodes.length ≤ c) (hp : w0.heap[pb]? = some (.cells #[.slice A nodes.length c, kn] 100 (0, 0)))
    (hn : nodes.length < 4294967296) (hdn : Dn nodes) (hb : w0.heap.size ≤ b2 ∧ b2 < NB ∧ b5 < NB ∧ b6 < NB ∧ b7 < NB ∧ mb < NB ∧ b2 ≠ b5 ∧ b6 ≠ b5 ∧ b7 ≠ b5 ∧ mb ≠ b5 ∧ mb ≠ b2 ∧ mb ≠ b6 ∧ mb ≠ b7 ∧ w0.heap.size ≤ b5 ∧ w0.heap.size ≤ mb)
    (ih : VisC A c pb kn nodes w0 b2 b5 b6 b7 mb NB k) : VisC A c pb kn nodes w0 b2 b5 b6 b7 mb NB (k + 1) := by
  intro n s W fv hV hok hn0 hnk hnn hlen
  have hmp := hV.map
  have hn64 : (Lit.int .i64 n).wf = true := WalkArith.wf_i64 (by omega)
  have hky := keyInt hn64
  have c2 : W.cell? ⟨b2, 0, none⟩ = some (.pointer (some ⟨pb, 0, none⟩)) := (blk_cell hV.h2 0).trans rfl
  have c6 : W.cell? ⟨b6, 0, none⟩ = some (.map (some mb)) := (blk_cell hV.h6 0).trans rfl
  have HV := Lib.hid hV
  have HOK := Lib.hid hok
  have HDN := Lib.hid hdn
  have HC := Lib.hid hC
  have HP := Lib.hid hp
  have HMP := Lib.hid hmp
  have HKY := Lib.hid hky
  have HIH := Lib.hid ih
  have HLEN := Lib.hid hlen
  have HB := Lib.hid hb
  clear hV hok hdn hC hp hmp hky ih hlen hb
  cases hnum : s.num n with
  | some m =>
    rw [vis_hit hnum]
    go_enter Tryd.func86, Tryd.ntmps86
    go_wp2_with (refine wp_look_ok (κ := Int) (β := Int) (kv := Value.int .i64) (en := Lit.int .i64) (zb := 0) _ rfl _ _ 126 rfl lawInt Tryd.underlying126 (zeroE _) (elInt rfl) HMP.out rfl n _ rfl HKY.out (some m) hnum (.int .i64 m) elInt_inv ?_)
    go_ret
    exact ⟨rfl, fv, HV.out, TurnO.refl _ _⟩
  | none =>
    have hn2 : 2 ≤ n := by
      have h0 : n ≠ 0 := by rintro rfl; rw [HOK.out.1] at hnum; cases hnum
      have h1 : n ≠ 1 := by rintro rfl; rw [HOK.out.2] at hnum; cases hnum
      omega
    have hil : (n - 2).toNat < nodes.length := by omega
    obtain ⟨x, hx⟩ : ∃ x, nodes[(n - 2).toNat]? = some x := ⟨_, List.getElem?_eq_getElem hil⟩
    have hnew := vis_new (k := k) hnum hx
    have hlen := HLEN.out
    rw [hnew] at hlen ⊢
    obtain ⟨d1, d2, d3, d4⟩ := HDN.out _ x hx
    have o1 := vis_ok nodes k x.f1 s HOK.out
    have o2 := vis_ok nodes k x.f2 _ o1.1
    have hl2 : (visP nodes k x.f2 (visP nodes k x.f1 s).2).2.out.length + 1 < 4294967296 := by
      have := hlen
      simp only [VS.add, List.length_append, List.length_singleton] at this
      exact this
    obtain ⟨lo, s1, e1⟩ : ∃ lo s1, visP nodes k x.f1 s = (lo, s1) := ⟨_, _, rfl⟩
    obtain ⟨hi, s2, e2⟩ : ∃ hi s2, visP nodes k x.f2 s1 = (hi, s2) := ⟨_, _, rfl⟩
    rw [e1] at o1 o2 hl2
    dsimp only at o1 o2 hl2
    rw [e2] at o2 hl2
    dsimp only at o2 hl2
    rw [e1]
    dsimp only
    rw [e2]
    dsimp only
    have hp' := blk_below HP.out HV.out.bel
    have p0 : W.cell? ⟨pb, 0, none⟩ = some (.slice A nodes.length c) := (blk_cell hp' 0).trans rfl
    obtain ⟨ad, rfl, _, x0, x1, x2⟩ := at_br (Kd.C_below HC.out HV.out.bel) hx
    have c7 : (W.alloc (.cells #[.int .i64 x.f0, .int .i64 x.f1, .int .i64 x.f2] 74)).cell? ⟨b7, 0, none⟩ = some (.func (.func 86) #[] #[.pointer (some ⟨b6, 0, none⟩), .pointer (some ⟨b2, 0, none⟩), .pointer (some ⟨b7, 0, none⟩), .pointer (some ⟨b5, 0, none⟩)]) := (blk_cell (blk_alloc HV.out.h7 _) 0).trans rfl
    have HE1 := Lib.hid e1
    have HE2 := Lib.hid e2
    have HX := Lib.hid hx
    have HNEW := Lib.hid hnew
    have HO1 := Lib.hid o1
    have HO2 := Lib.hid o2
    clear hlen hp' e1 e2 hx hnew o1 o2
    go_enter Tryd.func86, Tryd.ntmps86
    go_wp2_with (refine wp_look_ok (κ := Int) (β := Int) (kv := Value.int .i64) (en := Lit.int .i64) (zb := 0) _ rfl _ _ 126 rfl lawInt Tryd.underlying126 (zeroE _) (elInt rfl) HMP.out rfl _ _ rfl HKY.out none hnum (.int .i64 0) elInt_inv ?_)
    refine (HIH.out x.f1 s _ fv (HV.out.below (below_alloc (Below.refl _ _) _)) HOK.out d1 (by omega) (by omega) (by rw [HE1.out]; show s1.out.length < _; have := HO2.out.2; omega)).mono ?_
    rintro e w1 ⟨rfl, fv1, hV1, ht1⟩
    rw [HE1.out] at hV1
    have hnb := HV.out.nb
    have hfl := HV.out.fv_lt
    obtain ⟨g0, g1, g2, g3, g4, g5, g6, g7, g8, g9, g10, g11, g12, g13, g14⟩ := HB.out
    have hxo : ¬ VO b5 mb fv W.heap.size := by
      rintro (h | h | h)
      · omega
      · omega
      · have := hfl _ h; omega
    have hbx := ht1.blk (blk_new W _) hxo
    have c7' : w1.cell? ⟨b7, 0, none⟩ = some (.func (.func 86) #[] #[.pointer (some ⟨b6, 0, none⟩), .pointer (some ⟨b2, 0, none⟩), .pointer (some ⟨b7, 0, none⟩), .pointer (some ⟨b5, 0, none⟩)]) := (blk_cell hV1.h7 0).trans rfl
    have x2' : w1.cell? ⟨W.heap.size, 2, none⟩ = some (.int .i64 x.f2) := (blk_cell hbx 2).trans rfl
    have HV1 := Lib.hid hV1
    have HT1 := Lib.hid ht1
    have HBX := Lib.hid hbx
    rw [HE1.out]
    clear hV1 ht1 hbx hxo
    go_wp2_with fail
    refine (HIH.out x.f2 s1 _ fv1 HV1.out HO1.out.1 d3 (by omega) (by omega) (by rw [HE2.out]; show s2.out.length < _; omega)).mono ?_
    rintro e w2 ⟨rfl, fv2, hV2, ht2⟩
    rw [HE2.out] at hV2 ⊢
    have hfl1 := HV1.out.fv_lt
    have hxo1 : ¬ VO b5 mb fv1 W.heap.size := by
      intro h
      rcases HT1.out.2.1 _ h with h2 | h2
      · rcases h2 with h2 | h2 | h2
        · omega
        · omega
        · have := hfl _ h2; omega
      · simp at h2
        omega
    have hbx2 := ht2.blk HBX.out hxo1
    have x0' : w2.cell? ⟨W.heap.size, 0, none⟩ = some (.int .i64 x.f0) := (blk_cell hbx2 0).trans rfl
    have c5' : w2.cell? ⟨b5, 0, none⟩ = some fv2 := (blk_cell hV2.h5 0).trans rfl
    have HTT := Lib.hid ((below_turnO (below_alloc (Below.refl _ _) _) HT1.out).trans ht2)
    have HV2 := Lib.hid hV2
    clear hV2 ht2 hbx2 hxo1
    have hnb2 := HV2.out.nb
    have HR := Lib.hid (Kd.R_alloc HV2.out.row (.cells #[.int .i64 x.f0, .int .i64 lo, .int .i64 hi] 74))
    have hfl2 := HV2.out.fv_lt
    have hne5 : some b5 ≠ fv2.ownBlock := fun h => by have := hfl2 _ h; omega
    have hne6 : some b6 ≠ fv2.ownBlock := fun h => by have := hfl2 _ h; omega
    have hnem : some mb ≠ fv2.ownBlock := fun h => by have := hfl2 _ h; omega
    have HNE5 := Lib.hid hne5
    have HNE6 := Lib.hid hne6
    have HNEM := Lib.hid hnem
    have hwf : (Lit.int .i64 ((s2.out.length + 2 : Nat) : Int)).wf = true := WalkArith.wf_i64 (by omega)
    have hwl : (((s2.out.length + 1 : Nat) : Int) + 1) = ((s2.out.length + 2 : Nat) : Int) := by omega
    have HEL := Lib.hid (elInt hwf)
    clear hne5 hne6 hnem hwf hfl2
    go_wp2_with (first
      | (refine list_append_R k74 rfl (.tmp 37) (.tmp 43) 28 74 _ 24 rfl Tryd.underlying28 info74 rfl (by decide) fv2 s2.out ⟨x.f0, lo, hi⟩ [.int .i64 x.f0, .int .i64 lo, .int .i64 hi] (fun k => NB ≤ k) (fun _ => False) rfl ⟨w2.heap.size, 0, none⟩ rfl (new_cells0 _ _ _ _ rfl) (k74_mkM _ _ _ ⟨x.f0, lo, hi⟩) (fun _ h => h.elim) (by intro k hk; simp at hk; omega) HR.out (by omega) (by decide) ?_; intro g cap w3 hR hg hat hlt1
         have h5 := blk_grown (blk_alloc HV2.out.h5 _) hg HNE5.out
         have h6 := blk_grown (blk_alloc HV2.out.h6 _) hg HNE6.out
         have hm3 := HV2.out.map.blk (W' := w3) ((hg.block mb (by simp; have := HV2.out.map.lt; omega) HNEM.out).trans (Below.heap_alloc _ _ _ HV2.out.map.lt))
         have e5 : w3.cell? ⟨b5, 0, none⟩ = some fv2 := (blk_cell h5 0).trans rfl
         have z5 := blk_free h5 0
         have h6' := blk_far h6 (p := ⟨b5, 0, none⟩) g7 (.slice (some ⟨g, 0, none⟩) (s2.out.length + 1) cap)
         have h5' := blk_set h5 0 (.slice (some ⟨g, 0, none⟩) (s2.out.length + 1) cap)
         have e6 : (w3.setCell ⟨b5, 0, none⟩ (.slice (some ⟨g, 0, none⟩) (s2.out.length + 1) cap)).cell? ⟨b6, 0, none⟩ = some (.map (some mb)) := (blk_cell h6' 0).trans rfl
         have e5' : (w3.setCell ⟨b5, 0, none⟩ (.slice (some ⟨g, 0, none⟩) (s2.out.length + 1) cap)).cell? ⟨b5, 0, none⟩ = some (.slice (some ⟨g, 0, none⟩) (s2.out.length + 1) cap) := (blk_cell h5' 0).trans rfl
         have hm4 := hm3.blk (W' := w3.setCell ⟨b5, 0, none⟩ (.slice (some ⟨g, 0, none⟩) (s2.out.length + 1) cap)) (Below.heap_setCell _ _ _ _ g9)
         have HM4 := Lib.hid hm4
         have H6 := Lib.hid h6'
         have H5 := Lib.hid h5'
         have HR3 := Lib.hid hR
         have HG := Lib.hid hg
         have HAT := Lib.hid hat
         clear hm3 hm4 h6' h5' h5 h6 hR hg hat)
      | (refine wp_mapput (κ := Int) (β := Int) (kv := Value.int .i64) (en := Lit.int .i64) (zb := 0) _ rfl _ _ _ 126 rfl lawInt Tryd.underlying126 int_inj HM4.out (by unfold maxLen; omega) rfl n ((s2.out.length + 2 : Nat) : Int) (.int .i64 ((s2.out.length + 2 : Nat) : Int)) _ rfl (by rw [← hwl]; rfl) HKY.out HEL.out ?_; intro w5 hm5 ht5
         have h65 := blk_grown H6.out ht5.grown (by intro h; injection h with h; omega)
         have e65 : w5.cell? ⟨b6, 0, none⟩ = some (.map (some mb)) := (blk_cell h65 0).trans rfl
         have HM5 := Lib.hid hm5
         have HT5 := Lib.hid ht5
         clear hm5 ht5 h65)
      | (refine wp_look (κ := Int) (β := Int) (kv := Value.int .i64) (en := Lit.int .i64) (zb := 0) _ rfl _ _ 126 rfl lawInt Tryd.underlying126 (zeroE _) (elInt rfl) HM5.out rfl n _ rfl HKY.out ((s2.out.length + 2 : Nat) : Int) (by simp) (.int .i64 ((s2.out.length + 2 : Nat) : Int)) elInt_inv ?_))
    go_ret
    have hbw : Below w0.heap.size w0 (w2.alloc (.cells #[.int .i64 x.f0, .int .i64 lo, .int .i64 hi] 74)) := HV2.out.bel.trans (below_alloc (Below.refl _ _) _ |>.mono HV2.out.bel.size)
    have hz0 := HV2.out.bel.size
    have hz1 := hbw.size
    have hb3 : Below w0.heap.size w0 w3 := pw_below_grown hbw _ hbw.size HG.out (fun q hq => by have := HV2.out.fv_lt q hq.symm; omega)
    have hb4 := hb3.setCell (p := ⟨b5, 0, none⟩) (by show w0.heap.size ≤ b5; omega) (.slice (some ⟨g, 0, none⟩) (s2.out.length + 1) cap)
    have hb5 : Below w0.heap.size w0 w5 := pw_below_grown hb4 _ hb4.size HT5.out.grown (fun q hq => by injection hq with hq; omega)
    have hs3 := HG.out.size
    have hs5 := HT5.out.grown.size
    have hsw : W.heap.size ≤ w2.heap.size := HTT.out.size
    rw [World.size_alloc] at hs3
    rw [World.size_setCell] at hs5
    have h24 : ∀ b o, w2.heap[b]? = some o → b ≠ b5 → b ≠ mb → (some b ≠ fv2.ownBlock) → w5.heap[b]? = some o := by
      intro b o hb hn5 hnm hnf
      have q3 := blk_grown (blk_alloc hb _) HG.out hnf
      have q4 := (Below.heap_setCell w3 ⟨b5, 0, none⟩ (.slice (some ⟨g, 0, none⟩) (s2.out.length + 1) cap) b hn5).trans q3
      exact blk_grown q4 HT5.out.grown (by intro h; injection h with h; exact hnm h)
    have hsm : ∀ b, b < NB → some b ≠ fv2.ownBlock := fun b hb h => by have := HV2.out.fv_lt b h; omega
    refine ⟨rfl, .slice (some ⟨g, 0, none⟩) (s2.out.length + 1) cap, ⟨hb5, by omega, h24 _ _ HV2.out.h2 g6 (Ne.symm g10) (hsm _ g1), ?_, h24 _ _ HV2.out.h6 g7 (Ne.symm g11) (hsm _ g3), h24 _ _ HV2.out.h7 g8 (Ne.symm g12) (hsm _ g4), ?_, ?_⟩, ?_⟩
    · have := blk_grown H5.out HT5.out.grown (by intro h; injection h with h; exact g9 h.symm)
      simpa using this
    · refine Kd.R_grown (Kd.R_far HR3.out (p := ⟨b5, 0, none⟩) (fun k hk => ?_) _) HT5.out.grown (fun k hk h => ?_)
      · show k ≠ b5
        have : NB ≤ k := hk
        omega
      · injection h with h
        have : NB ≤ k := hk
        omega
    · have := HM5.out
      simp only [VS.add, List.length_append, List.length_singleton]
      exact this
    · have t0 : TurnO (VO b5 mb fv) W (VO b5 mb (.slice (some ⟨g, 0, none⟩) (s2.out.length + 1) cap)) w3 := by
        refine (HTT.out.below (below_alloc (Below.refl _ _) _)).grown HG.out (fun i hi => HTT.out.2.1 i (.inr (.inr hi.symm))) ?_
        rintro i (hi | hi | hi)
        · exact .inl (.inl hi)
        · exact .inl (.inr (.inl hi))
        · injection hi with hi
          subst hi
          rcases HAT.out with h | h
          · exact HTT.out.2.1 i (.inr (.inr h.symm))
          · rw [World.size_alloc] at h
            exact .inr (by omega)
      refine (t0.set (p := ⟨b5, 0, none⟩) (.inl (.inl rfl)) _).grown HT5.out.grown (fun i hi => ?_) t0.2.1
      injection hi with hi
      exact .inl (.inr (.inl hi.symm))

theorem vis_any (A : Option Addr) (c pb : Nat) (kn : Value) (nodes : List Br) (w0 : World) (b2 b5 b6 b7 mb NB : Nat) (hC : k74.C w0 A nodes.length nodes) (hc : nodes.length ≤ c) (hp : w0.heap[pb]? = some (.cells #[.slice A nodes.length c, kn] 100 (0, 0)))
    (hn : nodes.length < 4294967296) (hdn : Dn nodes) (hb : w0.heap.size ≤ b2 ∧ b2 < NB ∧ b5 < NB ∧ b6 < NB ∧ b7 < NB ∧ mb < NB ∧ b2 ≠ b5 ∧ b6 ≠ b5 ∧ b7 ≠ b5 ∧ mb ≠ b5 ∧ mb ≠ b2 ∧ mb ≠ b6 ∧ mb ≠ b7 ∧ w0.heap.size ≤ b5 ∧ w0.heap.size ≤ mb) :
    ∀ k, VisC A c pb kn nodes w0 b2 b5 b6 b7 mb NB k := by
  intro k
  induction k with
  | zero => intro n s W fv _ _ h0 h1; exact absurd h1 (by omega)
  | succ k ih => exact vis_step A c pb kn nodes w0 b2 b5 b6 b7 mb NB k hC hc hp hn hdn hb ih
end Go.Proofs.YtgpnpfjbkaehlaaDoor.Wk
namespace Go.Proofs.YtgpnpfjbkaehlaaDoor.Wk
open Go.RowKit Go.Shelf Go.Lib Go.Maps Go.Proofs.YtgpnpfjbkaehlaaDoorW.PrintWords Go.Proofs.YtgpnpfjbkaehlaaDoorW.PrintLast Go.Proofs.YtgpnpfjbkaehlaaDoorW.PrintMore Go.Proofs.YtgpnpfjbkaehlaaDoor.Nt Go.Proofs.YtgpnpfjbkaehlaaDoor.Fm
set_option linter.unusedVariables false
set_option linter.unusedSimpArgs false

/-- A diagram that is handed back. -/
def DgP (w : World) (out : List Br) (r : Int) (e : Ending) (w' : World) : Prop :=
  Below w.heap.size w w' ∧ ∃ A c, e = .returned (.agg #[.slice A out.length c, .int .i64 r]) ∧ out.length ≤ c ∧ k74.C w' A out.length out

set_option maxHeartbeats 2000000 in
set_option maxRecDepth 100000 in
theorem dg_any (A : Option Addr) (c pb : Nat) (kn : Value) (nodes : List Br) (root : Int) (w : World) (hC : k74.C w A nodes.length nodes) (hc : nodes.length ≤ c) (hn : nodes.length < 4294967296) (hdn : Dn nodes) (hr0 : 0 ≤ root) (hr1 : root < nodes.length + 2) (hlen : (dgP nodes root).2.out.length < 4294967296) (hp : w.heap[pb]? = some (.cells #[.slice A nodes.length c, kn] 100 (0, 0))) :
    Calls Tryd.prog 54 #[.pointer (some ⟨pb, 0, none⟩), .int .i64 root] w (DgP w (dgP nodes root).2.out (dgP nodes root).1) := by
  have hmm := @run_makeMap Tryd.prog
  go_enter Tryd.func54, Tryd.ntmps54
  go_wp2_with (first
    | (refine wp_mapins (κ := Int) (β := Int) (kv := Value.int .i64) (en := Lit.int .i64) (zb := 0) _ rfl _ (.const (.int .i64 0)) _ 126 rfl lawInt Tryd.underlying126 int_inj (MapIs.made_at _ (by simp)) (by unfold maxLen; omega) rfl 0 0 (.int .i64 0) (.int .i64 0) rfl rfl (keyInt rfl) (elInt rfl) ?_; intro w1 hm1 ht1)
    | (refine wp_mapins (κ := Int) (β := Int) (kv := Value.int .i64) (en := Lit.int .i64) (zb := 0) _ rfl _ (.const (.int .i64 1)) _ 126 rfl lawInt Tryd.underlying126 int_inj hm1 (by unfold maxLen; omega) rfl 1 1 (.int .i64 1) (.int .i64 1) rfl rfl (keyInt rfl) (elInt rfl) ?_; intro w2 hm2 ht2))
  have q0 : Below w.heap.size w ((((w.alloc (.cells #[.pointer (some ⟨pb, 0, none⟩)] 97)).alloc (.cells #[.slice none 0 0, .int .i64 0] 30)).alloc (.cells #[.slice none 0 0, .int .i64 0] 30)).alloc (.map #[] 0)) := below_alloc (below_alloc (below_alloc (below_alloc (Below.refl _ _) _) _) _) _
  have q1 := pw_below_grown q0 _ q0.size ht1.grown (fun q hq => by injection hq with hq; omega)
  have q2 := pw_below_grown q1 _ q1.size ht2.grown (fun q hq => by injection hq with hq; omega)
  have s1 := ht1.grown.size
  have s2 := ht2.grown.size
  simp only [World.size_alloc] at s1
  have tr : ∀ b o, b ≠ w.heap.size + 1 + 1 + 1 → ((((w.alloc (.cells #[.pointer (some ⟨pb, 0, none⟩)] 97)).alloc (.cells #[.slice none 0 0, .int .i64 0] 30)).alloc (.cells #[.slice none 0 0, .int .i64 0] 30)).alloc (.map #[] 0)).heap[b]? = some o → w2.heap[b]? = some o := by
    intro b o hb h
    exact blk_grown (blk_grown h ht1.grown (by intro h; injection h with h; exact hb h)) ht2.grown (by intro h; injection h with h; exact hb h)
  have k2 := tr w.heap.size _ (by omega) (blk_alloc (blk_alloc (blk_alloc (blk_new w _) _) _) _)
  have k4 := tr (w.heap.size + 1) (.cells #[.slice none 0 0, .int .i64 0] 30) (by omega) (blk_alloc (blk_alloc (by have := blk_new (w.alloc (.cells #[.pointer (some ⟨pb, 0, none⟩)] 97)) (.cells #[.slice none 0 0, .int .i64 0] 30); rwa [World.size_alloc] at this) _) _)
  have k5 := tr (w.heap.size + 1 + 1) (.cells #[.slice none 0 0, .int .i64 0] 30) (by omega) (blk_alloc (by have := blk_new ((w.alloc (.cells #[.pointer (some ⟨pb, 0, none⟩)] 97)).alloc (.cells #[.slice none 0 0, .int .i64 0] 30)) (.cells #[.slice none 0 0, .int .i64 0] 30); rwa [World.size_alloc, World.size_alloc] at this) _)
  have hV : VI A c pb kn nodes w w.heap.size (w.heap.size + 1 + 1) w2.heap.size (w2.heap.size + 1) (w.heap.size + 1 + 1 + 1) (w2.heap.size + 2) ((w2.alloc (.cells #[.map (some (w.heap.size + 1 + 1 + 1))] 126)).alloc (.cells #[.func (.func 86) #[] #[.pointer (some ⟨w2.heap.size, 0, none⟩), .pointer (some ⟨w.heap.size, 0, none⟩), .pointer (some ⟨w2.heap.size + 1, 0, none⟩), .pointer (some ⟨w.heap.size + 1 + 1, 0, none⟩)]] 71)) (.slice none 0 0) ⟨fun y => if y = 1 then some 1 else if y = 0 then some 0 else none, []⟩ := by
    refine ⟨below_alloc (below_alloc q2 _) _, by simp, blk_alloc (blk_alloc k2 _) _, blk_alloc (blk_alloc k5 _) _, blk_alloc (blk_new _ _) _, ?_, Kd.R_nil _ _ _ _ _, ?_⟩
    · have := blk_new (w2.alloc (.cells #[.map (some (w.heap.size + 1 + 1 + 1))] 126)) (.cells #[.func (.func 86) #[] #[.pointer (some ⟨w2.heap.size, 0, none⟩), .pointer (some ⟨w.heap.size, 0, none⟩), .pointer (some ⟨w2.heap.size + 1, 0, none⟩), .pointer (some ⟨w.heap.size + 1 + 1, 0, none⟩)]] 71)
      rwa [World.size_alloc] at this
    · refine hm2.blk ?_
      have hl := hm2.lt
      rw [Below.heap_alloc _ _ _ (by rw [World.size_alloc]; omega), Below.heap_alloc _ _ _ hl]
  have k4' := blk_alloc (blk_alloc k4 (.cells #[.map (some (w.heap.size + 1 + 1 + 1))] 126)) (.cells #[.func (.func 86) #[] #[.pointer (some ⟨w2.heap.size, 0, none⟩), .pointer (some ⟨w.heap.size, 0, none⟩), .pointer (some ⟨w2.heap.size + 1, 0, none⟩), .pointer (some ⟨w.heap.size + 1 + 1, 0, none⟩)]] 71)
  have hvis := vis_any A c pb kn nodes w _ _ _ _ _ _ hC hc hp hn hdn (by omega) (nodes.length + 2) root _ _ _ hV ⟨rfl, rfl⟩ hr0 (by omega) (by omega) hlen
  rw [show visP nodes (nodes.length + 2) root ⟨fun y => if y = 1 then some 1 else if y = 0 then some 0 else none, []⟩ = dgP nodes root from rfl] at hvis
  obtain ⟨rt, vs, hg⟩ : ∃ rt vs, dgP nodes root = (rt, vs) := ⟨_, _, rfl⟩
  rw [hg] at hvis hlen
  dsimp only at hvis hlen
  refine hvis.mono ?_
  rintro e w3 ⟨rfl, fv', hV', ht3⟩
  have k43 := ht3.blk k4' (by rintro (h | h | h) <;> first | omega | cases h)
  have c40 : w3.cell? ⟨w.heap.size + 1, 0, none⟩ = some (.slice none 0 0) := (blk_cell k43 0).trans rfl
  have c41 : w3.cell? ⟨w.heap.size + 1, 1, none⟩ = some (.int .i64 0) := (blk_cell k43 1).trans rfl
  have f40 := blk_free k43 0
  have f41 := blk_free k43 1
  have c51 : w3.cell? ⟨w.heap.size + 1 + 1, 1, none⟩ = some (.int .i64 0) := (blk_cell hV'.h5 1).trans rfl
  have c50 : w3.cell? ⟨w.heap.size + 1 + 1, 0, none⟩ = some fv' := (blk_cell hV'.h5 0).trans rfl
  have f51 := blk_free hV'.h5 1
  obtain ⟨A', c', rfl, hc', hC'⟩ := Kd.R_reads hV'.row
  have HV := Lib.hid hV'
  have HC' := Lib.hid hC'
  have HK := Lib.hid k43
  clear k43
  clear hV' hC' hV k4' k2 k4 k5 tr q0 q1 q2 ht1 ht2 ht3 hm1 hm2 hp hC
  go_wp2_with fail
  have e1 := blk_far HK.out (p := ⟨w.heap.size + 1 + 1, 1, none⟩) (by show w.heap.size + 1 ≠ w.heap.size + 1 + 1; omega) (.int .i64 rt)
  have e2 := blk_set (blk_set e1 0 (.slice A' vs.out.length c')) 1 (.int .i64 rt)
  have d0 : World.cell? _ ⟨w.heap.size + 1, 0, none⟩ = some (.slice A' vs.out.length c') := (blk_cell e2 0).trans rfl
  have d1 : World.cell? _ ⟨w.heap.size + 1, 1, none⟩ = some (.int .i64 rt) := (blk_cell e2 1).trans rfl
  refine bodyPost_ret (v := .agg #[.slice A' vs.out.length c', .int .i64 rt]) ?_ rfl ?_
  · simp [results, Tryd.results54, go_sem, d0, d1]
  · rw [hg]
    have hz : w.heap.size ≤ w3.heap.size := HV.out.bel.size
    refine ⟨((HV.out.bel.setCell (p := ⟨_, _, _⟩) (by show w.heap.size ≤ w.heap.size + 1 + 1; omega) _).setCell (p := ⟨_, _, _⟩) (by show w.heap.size ≤ w.heap.size + 1; omega) _).setCell (p := ⟨_, _, _⟩) (by show w.heap.size ≤ w.heap.size + 1; omega) _, A', c', rfl, hc', ?_⟩
    have r1 := Kd.R_far (Kd.R_far (Kd.R_far HV.out.row (p := ⟨w.heap.size + 1 + 1, 1, none⟩) (fun k hk => ?_) (.int .i64 rt)) (p := ⟨w.heap.size + 1, 0, none⟩) (fun k hk => ?_) (.slice A' vs.out.length c')) (p := ⟨w.heap.size + 1, 1, none⟩) (fun k hk => ?_) (.int .i64 rt)
    · obtain ⟨A2, c2, he, _, hr⟩ := Kd.R_reads r1
      injection he with h1 h2 h3
      subst h1
      exact hr
    all_goals
      have : w2.heap.size + 2 ≤ k := hk
      first | (show k ≠ w.heap.size + 1 + 1; omega) | (show k ≠ w.heap.size + 1; omega)
end Go.Proofs.YtgpnpfjbkaehlaaDoor.Wk
namespace Go.Proofs.YtgpnpfjbkaehlaaDoor.Wk
open Go.RowKit Go.Shelf Go.Lib Go.Maps Go.Proofs.YtgpnpfjbkaehlaaDoorW.PrintWords Go.Proofs.YtgpnpfjbkaehlaaDoorW.PrintLast Go.Proofs.YtgpnpfjbkaehlaaDoorW.PrintMore Go.Proofs.YtgpnpfjbkaehlaaDoor.Nt Go.Proofs.YtgpnpfjbkaehlaaDoor.Fm
set_option linter.unusedVariables false
set_option linter.unusedSimpArgs false

theorem laidOutP : laidOutB Tryd.prog = true := by kernel_rfl
theorem rowBr : (74 : TypeId) < Tryd.prog.types.size := of_decide_eq_true (by kernel_rfl)
theorem wideBr : (match Tryd.prog.underlying 74 with | some (.array _ _) | some (.struct _) => true | _ => false) = true := by rw [Tryd.underlying74]
theorem deepBr : Tryd.prog.keyTypeAt 2 74 = true := by kernel_rfl
theorem small3 : 2 + 1 ≤ 10000 := by decide
set_option maxRecDepth 100000 in
theorem lawBr : Keyed Tryd.prog 74 := Keyed.of_law (deep_law_laid laidOutP small3 rowBr deepBr wideBr)
theorem typeBr : Tryd.prog.keyType 74 = true := by kernel_rfl
theorem cellsBr : Tryd.prog.cellsOf 74 = 3 := by kernel_rfl
theorem cellsInt : Tryd.prog.cellsOf 3 = 1 := by kernel_rfl
theorem kindsLe : 2 ≤ Tryd.prog.types.size := of_decide_eq_true (by kernel_rfl)
theorem kindsP : ∃ n, Tryd.prog.types.size = n + 2 := ⟨Tryd.prog.types.size - 2, by have := kindsLe; omega⟩

def brV (b : Br) : Value := .agg #[.int .i64 b.f0, .int .i64 b.f1, .int .i64 b.f2]
def wfBr (b : Br) : Prop := (Lit.int .i64 b.f0).wf = true ∧ (Lit.int .i64 b.f1).wf = true ∧ (Lit.int .i64 b.f2).wf = true

theorem keyBr {b : Br} (h : wfBr b) : ∃ l, keyOf Tryd.prog 74 (brV b) = some l := by
  obtain ⟨n, hn⟩ := kindsP
  obtain ⟨h0, h1, h2⟩ := h
  unfold keyOf
  rw [Tryd.underlying74]
  have hf : Value.formed Tryd.prog 74 (brV b) = true := by simp [Value.formed, Tryd.underlying74, brV, cellsBr]
  simp only [typeBr, hf, Bool.and_self, if_true]
  rw [hn]
  simp [Program.keyLits, brV, Value.cells, Tryd.underlying74, Tryd.underlying3, cellsBr, cellsInt, h0, h1, h2]

theorem wf_br {b : Br} {i : Nat} (h : okA i b) (hi : i < 4294967296) : wfBr b := by
  obtain ⟨h0, h1, h2, h3, h4, h5, _⟩ := h
  exact ⟨WalkArith.wf_i64 (by omega), WalkArith.wf_i64 (by omega), WalkArith.wf_i64 (by omega)⟩
theorem brV_inj : ∀ x y : Br, brV x = brV y → x = y := by
  intro x y h
  have h1 := Value.agg.inj h
  have h2 := congrArg Array.toList h1
  simp only [List.cons.injEq, and_true] at h2
  obtain ⟨a, b, c⟩ := h2
  cases x; cases y
  have e0 := (Value.int.inj a).2
  have e1 := (Value.int.inj b).2
  have e2 := (Value.int.inj c).2
  dsimp only at e0 e1 e2
  rw [e0, e1, e2]
theorem zeroBool (w : World) : (zeroValue 4).run Tryd.prog w = .ok (.bool false) w := by kernel_rfl
theorem elBool (x : Bool) : plainElem (H := Unit) Tryd.prog 4 (.bool x) = some (.lit (.bool x), []) := plainElem_bool Tryd.underlying4 x
theorem elBool_inv {x : Bool} : ∀ v ps, plainElem (H := Unit) Tryd.prog 4 v = some (.lit (.bool x), ps) → v = .bool x := by
  intro v ps h
  unfold plainElem at h
  simp only [Tryd.underlying4] at h
  split at h <;> simp_all

/-- A map of branches to bools. -/
abbrev MBB (W : World) (b n : Nat) (look : Br → Option Bool) : Prop := MapIs Tryd.prog 74 4 brV Lit.bool false W b n look
/-- A map of branches to ints. -/
abbrev MBI (W : World) (b n : Nat) (look : Br → Option Int) : Prop := MapIs Tryd.prog 74 3 brV (Lit.int .i64) 0 W b n look
end Go.Proofs.YtgpnpfjbkaehlaaDoor.Wk
namespace Go.Proofs.YtgpnpfjbkaehlaaDoor.Wk
open Go.RowKit Go.Shelf Go.Lib Go.Maps Go.Proofs.YtgpnpfjbkaehlaaDoorW.PrintWords Go.Proofs.YtgpnpfjbkaehlaaDoorW.PrintLast Go.Proofs.YtgpnpfjbkaehlaaDoorW.PrintMore Go.Proofs.YtgpnpfjbkaehlaaDoor.Nt Go.Proofs.YtgpnpfjbkaehlaaDoor.Fm
set_option linter.unusedVariables false
set_option linter.unusedSimpArgs false

def TC : Bool × List (List Nat × List Nat) := (true, [([], []), ([], []), ([1], [1]), ([0, 2], [0, 2]), ([], []), ([4], [4]), ([3, 5], [3, 5]), ([6, 3], [6]), ([7], [7]), ([7], [7]), ([9, 7], [7, 9]), ([8, 10, 7, 7], [7, 8, 10]), ([7], [7]), ([12, 7], [7, 12]), ([11, 13, 7], [7, 11, 13]), ([7, 14], [7, 14])])
def BC : List Nat := [0, 0, 2, 7, 0, 16, 63, 127, 255, 255, 767, 2047, 255, 4351, 16383, 32767]
theorem tabC : rtab .any (opsOf Tryd.f22 9) = TC := by kernel_rfl
theorem bitsC : waitsOk TC.2 BC = true := by kernel_rfl

theorem okBr_no {nodes : List Br} {i : Nat} {b : Br} (h : ¬ okA i b) : okBr nodes i b = false := by simp [okBr, h]
theorem okBr_in {nodes : List Br} {i : Nat} {b : Br} (h : b ∈ nodes.take i) : okBr nodes i b = false := by simp [okBr, h]
theorem okBr_lo {nodes : List Br} {i : Nat} {b : Br} (h : lvl nodes b.f1 ≤ b.f0) : okBr nodes i b = false := by
  have h' : ¬ b.f0 < lvl nodes b.f1 := by omega
  simp [okBr, h']
theorem okBr_hi {nodes : List Br} {i : Nat} {b : Br} (h : lvl nodes b.f2 ≤ b.f0) : okBr nodes i b = false := by
  have h' : ¬ b.f0 < lvl nodes b.f2 := by omega
  simp [okBr, h']
theorem okBr_yes {nodes : List Br} {i : Nat} {b : Br} (h : okA i b) (h1 : b ∉ nodes.take i) (h2 : ¬ lvl nodes b.f1 ≤ b.f0) (h3 : ¬ lvl nodes b.f2 ≤ b.f0) : okBr nodes i b = true := by
  simp only [okBr, h, h1, decide_true, decide_false, Bool.not_false, Bool.true_and, Bool.and_eq_true, decide_eq_true_eq]
  omega

/-- What a check of a diagram comes to. -/
def DcP (nodes : List Br) (root : Int) (w : World) (e : Ending) (w' : World) : Prop := e = .returned (.int .i64 (dgC nodes root)) ∧ Below w.heap.size w w'
theorem DcP.mk_ {nodes : List Br} {root : Int} {w w' : World} {r : Int} (h : dgC nodes root = r) (hb : Below w.heap.size w w') : DcP nodes root w (.returned (.int .i64 r)) w' := ⟨by rw [h], hb⟩

/-- The branches that were there. -/
def seen (nodes : List Br) (k : Nat) : Br → Option Bool := fun b => if b ∈ nodes.take k then some true else none

theorem seen_succ {nodes : List Br} {k : Nat} {x : Br} (h : nodes[k]? = some x) : (fun y => if y = x then some true else seen nodes k y) = seen nodes (k + 1) := by
  funext y
  unfold seen
  rw [List.take_add_one, h]
  simp only [Option.toList_some, List.mem_append, List.mem_singleton]
  by_cases h1 : y = x
  · simp [h1]
  · by_cases h2 : y ∈ nodes.take k
    · simp [h1, h2]
    · simp [h1, h2]

set_option maxHeartbeats 4000000 in
set_option maxRecDepth 100000 in
theorem dcheck_in (A : Option Addr) (c : Nat) (nodes : List Br) (root : Int) (w : World) (hC : k74.C w A nodes.length nodes) (hc : nodes.length ≤ c) (hl : nodes.length ≤ 4096) :
    Calls Tryd.prog 22 #[.agg #[.slice A nodes.length c, .int .i64 root]] w (DcP nodes root w) := by
  have hmm := @run_makeMap Tryd.prog
  have HC := Lib.hid hC
  clear hC
  go_enter Tryd.func22, Tryd.ntmps22
  go_wp2_with fail
  go_loopg [15] nodes.length (fun kq v15 wr => ∃ k : Nat, v15 = .int .i64 k ∧ Aside0 (k + kq = nodes.length ∧ Below w.heap.size w wr ∧ okD nodes k = true ∧ wr.heap[w.heap.size]? = some (.cells #[.slice A nodes.length c, .int .i64 root] 30 (0, 0)) ∧ MBB wr (w.heap.size + 1) k (seen nodes k)))
  case atStart =>
    refine ⟨0, rfl, ⟨by omega, below_alloc (below_alloc (Below.refl _ _) _) _, rfl, blk_alloc (blk_new _ _) _, ?_⟩⟩
    exact MapIs.made_at _ (by simp)
  case round =>
    obtain ⟨k, rfl, HA⟩ := hrel
    by_cases hk : k < nodes.length
    · obtain ⟨x, hx⟩ : ∃ x, nodes[k]? = some x := ⟨_, List.getElem?_eq_getElem hk⟩
      obtain ⟨ad, rfl, _, c0, c1, c2⟩ := at_br (Kd.C_below HC.out HA.out.2.1) hx
      have HX := Lib.hid hx
      clear hx
      have hno : okBr nodes k x = false → dgC nodes root = 20 := dg_badbr hl HX.out
      have HNO := Lib.hid hno
      clear hno
      by_cases g0 : 0 ≤ x.f0
      · by_cases g1 : x.f0 ≤ 63
        · by_cases g2 : 0 ≤ x.f1
          · by_cases g3 : 0 ≤ x.f2
            · by_cases g4 : x.f1 ≤ k + 1
              · by_cases g5 : x.f2 ≤ k + 1
                · by_cases g6 : x.f1 = x.f2
                  · have g6' : (x.f1 == x.f2) = true := beq_iff_eq.2 g6
                    have hnA : ¬ okA k x := fun h => h.2.2.2.2.2.2 g6
                    go_wp2_with fail
                    go_ret
                    exact .mk_ (HNO.out (okBr_no hnA)) (below_alloc HA.out.2.1 _)
                  · have g6' : (x.f1 == x.f2) = false := beq_eq_false_iff_ne.2 g6
                    have hA : okA k x := ⟨g0, g1, g2, g3, g4, g5, g6⟩
                    obtain ⟨kl, hkl⟩ := keyBr (wf_br hA (by omega))
                    have HKL := Lib.hid hkl
                    have hMX := HA.out.2.2.2.2.blk (W' := wr.alloc (.cells #[.int .i64 x.f0, .int .i64 x.f1, .int .i64 x.f2] 74)) (Below.heap_alloc _ _ _ HA.out.2.2.2.2.lt)
                    have HMX := Lib.hid hMX
                    clear hkl hMX
                    by_cases hin : x ∈ nodes.take k
                    · have hsn : seen nodes k x = some true := by rw [seen, if_pos hin]
                      have hlk : (Instr.lookup 95 (.map (some (w.heap.size + 1))) (.agg #[.int .i64 x.f0, .int .i64 x.f1, .int .i64 x.f2]) false).run Tryd.prog (wr.alloc (.cells #[.int .i64 x.f0, .int .i64 x.f1, .int .i64 x.f2] 74)) = .ok (.bool true) (wr.alloc (.cells #[.int .i64 x.f0, .int .i64 x.f1, .int .i64 x.f2] 74)) := HMX.out.look_run lawBr Tryd.underlying95 (zeroBool _) (elBool false) x kl HKL.out true (by rw [hsn]; rfl) (.bool true) elBool_inv
                      go_upto_region 9 with (fail)
                      go_ret
                      exact .mk_ (HNO.out (okBr_in hin)) (below_alloc HA.out.2.1 _)
                    · have hsn : seen nodes k x = none := by rw [seen, if_neg hin]
                      have hlk : (Instr.lookup 95 (.map (some (w.heap.size + 1))) (.agg #[.int .i64 x.f0, .int .i64 x.f1, .int .i64 x.f2]) false).run Tryd.prog (wr.alloc (.cells #[.int .i64 x.f0, .int .i64 x.f1, .int .i64 x.f2] 74)) = .ok (.bool false) (wr.alloc (.cells #[.int .i64 x.f0, .int .i64 x.f1, .int .i64 x.f2] 74)) := HMX.out.look_run lawBr Tryd.underlying95 (zeroBool _) (elBool false) x kl HKL.out false (by rw [hsn]; rfl) (.bool false) elBool_inv
                      go_upto_region 9 with (fail)
                      have hbk : (wr.alloc (.cells #[.int .i64 x.f0, .int .i64 x.f1, .int .i64 x.f2] 74)).heap[w.heap.size]? = some (.cells #[.slice (some ad) nodes.length c, .int .i64 root] 30 (0, 0)) := blk_alloc HA.out.2.2.2.1 _
                      have hcx := Kd.C_alloc (Kd.C_below HC.out HA.out.2.1) (.cells #[.int .i64 x.f0, .int .i64 x.f1, .int .i64 x.f2] 74)
                      have HBK := Lib.hid hbk
                      have HCX := Lib.hid hcx
                      clear hbk hcx hlk
                      go_cut [79] (fun v79 wc => v79 = .bool (decide (lvl nodes x.f1 ≤ x.f0) || decide (lvl nodes x.f2 ≤ x.f0)) ∧ Aside0 (Below (wr.alloc (.cells #[.int .i64 x.f0, .int .i64 x.f1, .int .i64 x.f2] 74)).heap.size (wr.alloc (.cells #[.int .i64 x.f0, .int .i64 x.f1, .int .i64 x.f2] 74)) wc))
                      case first =>
                        have BK115 := Aside0.mk HBK.out
                        have BK117 := Aside0.mk (blk_new wr (.cells #[.int .i64 x.f0, .int .i64 x.f1, .int .i64 x.f2] 74))
                        have HB := Aside0.mk (Below.refl (wr.alloc (.cells #[.int .i64 x.f0, .int .i64 x.f1, .int .i64 x.f2] 74)).heap.size (wr.alloc (.cells #[.int .i64 x.f0, .int .i64 x.f1, .int .i64 x.f2] 74)))
                        have A33 := Aside0.mk (lvl_is (nodes := nodes) root g2 (by omega) (by omega))
                        have A37 := Aside0.mk (lvl_is (nodes := nodes) root g3 (by omega) (by omega))
                        by_cases c34 : lvl nodes x.f1 ≤ x.f0
                        · have c34b0 : decide (lvl nodes x.f1 ≤ x.f0) = true := decide_eq_true c34
                          have n0_ := Aside0.mk (blk_drew BK115.out)
                          have n1_ := Aside0.mk (blk_drew BK117.out)
                          have n2_ := Aside0.mk (below_drew1 HB.out)
                          clear BK115
                          clear BK117
                          clear HB
                          have BK115 := n0_
                          have BK117 := n1_
                          have HB := n2_
                          clear n0_ n1_ n2_
                          refine start_ (n := 16) (S := fun w' => w'.cell? ⟨w.heap.size, 0, none⟩ = some (.slice (some ad) nodes.length c) ∧ w'.cell? ⟨w.heap.size, 1, none⟩ = some (.int .i64 root) ∧ w'.cell? ⟨wr.heap.size, 0, none⟩ = some (.int .i64 x.f0) ∧ w'.cell? ⟨wr.heap.size, 1, none⟩ = some (.int .i64 x.f1) ∧ w'.cell? ⟨wr.heap.size, 2, none⟩ = some (.int .i64 x.f2)) (ds := []) #[false, false, false, false, false, false, false, false, false, false, false, false, false, false, false, false] (by kernel_rfl) rfl rfl ⟨(blk_cell BK115.out 0).trans rfl, (blk_cell BK115.out 1).trans rfl, (blk_cell BK117.out 0).trans rfl, (blk_cell BK117.out 1).trans rfl, (blk_cell BK117.out 2).trans rfl⟩ (fun hHeld => ?_); refine with_tabW tabC bitsC (fun HT_ HW_ => ?_)
                          generalize (wr.alloc (.cells #[.int .i64 x.f0, .int .i64 x.f1, .int .i64 x.f2] 74)).drew = w35 at BK115 BK117 HB hHeld ⊢
                          refine pure_ (i := 1) (N := some 65) (v := ?_) (a' := ?_) #[false, true, false, false, false, false, false, false, false, false, false, false, false, false, false, false] rfl rfl (any_of HT_.out (by kernel_rfl)) (fun _ _ _ h => h) (Or.inl ⟨by rfl, ?_⟩) ?_ ?_
                          rotate_left
                          · intro w'
                            go_simp
                            with_reducible rfl
                          rotate_left
                          · simp only [Act.put, List.setIfInBounds_toArray, List.set_cons_zero, List.set_cons_succ, i64_w, i32_w]
                            rfl
                          refine pure_ (i := 4) (N := some 68) (v := ?_) (a' := ?_) #[false, true, false, false, true, false, false, false, false, false, false, false, false, false, false, false] rfl rfl (any_of HT_.out (by kernel_rfl)) (fun _ _ _ h => h) (Or.inl ⟨by rfl, ?_⟩) ?_ ?_
                          rotate_left
                          · intro w'
                            go_simp
                            with_reducible rfl
                          rotate_left
                          · simp only [Act.put, List.setIfInBounds_toArray, List.set_cons_zero, List.set_cons_succ, i64_w, i32_w]
                            rfl
                          refine take_ (i := 0) (N := some 64) (v := ?_) (a' := ?_) #[true, true, false, false, true, false, false, false, false, false, false, false, false, false, false, false] rfl rfl (take_ofW HT_.out HW_.out (by kernel_rfl)) (fun _ _ _ h => h) (Or.inl ⟨by rfl, ?_⟩) hHeld ?_ ?_
                          rotate_left
                          · rintro w' ⟨s0, s1, s2, s3, s4⟩
                            go_simp
                            with_reducible rfl
                          rotate_left
                          · simp only [Act.put, List.setIfInBounds_toArray, List.set_cons_zero, List.set_cons_succ, i64_w, i32_w]
                            rfl
                          refine take_ (i := 2) (N := some 66) (v := ?_) (a' := ?_) #[true, true, true, false, true, false, false, false, false, false, false, false, false, false, false, false] rfl rfl (take_ofW HT_.out HW_.out (by kernel_rfl)) (fun _ _ _ h => h) (Or.inl ⟨by rfl, ?_⟩) hHeld ?_ ?_
                          rotate_left
                          · rintro w' ⟨s0, s1, s2, s3, s4⟩
                            go_simp
                            with_reducible rfl
                          rotate_left
                          · simp only [Act.put, List.setIfInBounds_toArray, List.set_cons_zero, List.set_cons_succ, i64_w, i32_w]
                            rfl
                          refine take_ (i := 5) (N := some 69) (v := ?_) (a' := ?_) #[true, true, true, false, true, true, false, false, false, false, false, false, false, false, false, false] rfl rfl (take_ofW HT_.out HW_.out (by kernel_rfl)) (fun _ _ _ h => h) (Or.inl ⟨by rfl, ?_⟩) hHeld ?_ ?_
                          rotate_left
                          · rintro w' ⟨s0, s1, s2, s3, s4⟩
                            go_simp
                            with_reducible rfl
                          rotate_left
                          · simp only [Act.put, List.setIfInBounds_toArray, List.set_cons_zero, List.set_cons_succ, i64_w, i32_w]
                            rfl
                          refine one_ (i := 3) (N := some 67) #[true, true, true, true, true, true, false, false, false, false, false, false, false, false, false, false] rfl rfl (one_of HT_.out (by kernel_rfl)) (by decide) (fun K hK => ?_)
                          refine goes_ Tryd.func53 (by kernel_rfl) rfl #[.agg #[.slice (some ad) nodes.length c, .int .i64 root], .int .i64 x.f1] (by rfl) rfl rfl (by (try simp only [List.map_toArray, List.map_cons, List.map_nil]); first | done | rfl | (simp only [List.length_drop, List.length_take]; rfl)) ?_
                          with_reducible refine (diagram_level.calls _ _ nodes root x.f1 (lvl nodes x.f1) _ ?side1 ?side2 A33.out).mono ?_
                          (case side1 => repeat (first | exact (Kd.C_below HCX.out HB.out) | (with_reducible refine Kd.C_alloc ?_ _) | (with_reducible refine Kd.C_drewN ?_ _) | (with_reducible refine Kd.C_drew ?_)))
                          (case side2 => exact hc)
                          rintro e w36 ⟨rfl, hb⟩
                          refine ⟨_, rfl, ?_⟩
                          have n0_ := Aside0.mk (blk_below (g := w.heap.size) (o := .cells #[.slice (some ad) nodes.length c, .int .i64 root] 30 (0, 0)) (by (with_reducible repeat (first | refine blk_drewN ?_ _ | refine blk_drew ?_ | refine blk_alloc ?_ _)); exact BK115.out) hb)
                          have n1_ := Aside0.mk (blk_below (g := wr.heap.size) (o := .cells #[.int .i64 x.f0, .int .i64 x.f1, .int .i64 x.f2] 74 (0, 0)) (by (with_reducible repeat (first | refine blk_drewN ?_ _ | refine blk_drew ?_ | refine blk_alloc ?_ _)); exact BK117.out) hb)
                          have n2_ := Aside0.mk (below_step (by repeat (first | (with_reducible first | exact HB.out | apply below_alloc | apply pw_below_drewN | apply below_drew1 | refine below_set ?_ GE115.out | refine below_set ?_ GE117.out) | exact HB.out)) hb)
                          clear BK115
                          clear BK117
                          clear HB
                          have BK115 := n0_
                          have BK117 := n1_
                          have HB := n2_
                          clear n0_ n1_ n2_
                          (try clear hb)
                          (try clear hb2)
                          (try clear hk)
                          (try clear hi)
                          refine hK.out _ _ ⟨(blk_cell BK115.out 0).trans rfl, (blk_cell BK115.out 1).trans rfl, (blk_cell BK117.out 0).trans rfl, (blk_cell BK117.out 1).trans rfl, (blk_cell BK117.out 2).trans rfl⟩ (fun hHeld => ?_)
                          clear hK K
                          refine norm_ (a' := ?_) ?_ ?_
                          rotate_left
                          · show Act.put _ (some 67) _ = _
                            simp only [Act.put, List.setIfInBounds_toArray, List.set_cons_zero, List.set_cons_succ, i64_w, i32_w]
                            rfl
                          refine pure_ (i := 6) (N := some 70) (v := ?_) (a' := ?_) #[true, true, true, true, true, true, true, false, false, false, false, false, false, false, false, false] rfl rfl (any_of HT_.out (by kernel_rfl)) (fun _ _ _ h => h) (Or.inl ⟨by rfl, ?_⟩) ?_ ?_
                          rotate_left
                          · intro w'
                            go_simp
                            with_reducible rfl
                          rotate_left
                          · simp only [Act.put, List.setIfInBounds_toArray, List.set_cons_zero, List.set_cons_succ, i64_w, i32_w]
                            rfl
                          refine pure_ (i := 7) (N := some 71) (v := ?_) (a' := ?_) #[true, true, true, true, true, true, true, true, false, false, false, false, false, false, false, false] rfl rfl (any_of HT_.out (by kernel_rfl)) (fun _ _ _ h => h) (Or.inl ⟨by rfl, ?_⟩) ?_ ?_
                          rotate_left
                          · intro w'
                            go_simp
                            with_reducible rfl
                          rotate_left
                          · simp only [Act.put, List.setIfInBounds_toArray, List.set_cons_zero, List.set_cons_succ, i64_w, i32_w]
                            rfl
                          refine pure_ (i := 8) (N := some 72) (v := undef) (a' := ?_) #[true, true, true, true, true, true, true, true, true, false, false, false, false, false, false, false] rfl rfl (any_of HT_.out (by kernel_rfl)) (fun _ _ _ h => h) (Or.inr ⟨by rfl, rfl⟩) ?_ ?_
                          rotate_left
                          · simp only [Act.put, List.setIfInBounds_toArray, List.set_cons_zero, List.set_cons_succ, i64_w, i32_w]
                            rfl
                          refine pure_ (i := 9) (N := some 73) (v := undef) (a' := ?_) #[true, true, true, true, true, true, true, true, true, true, false, false, false, false, false, false] rfl rfl (any_of HT_.out (by kernel_rfl)) (fun _ _ _ h => h) (Or.inr ⟨by rfl, rfl⟩) ?_ ?_
                          rotate_left
                          · simp only [Act.put, List.setIfInBounds_toArray, List.set_cons_zero, List.set_cons_succ, i64_w, i32_w]
                            rfl
                          refine pure_ (i := 10) (N := some 74) (v := undef) (a' := ?_) #[true, true, true, true, true, true, true, true, true, true, true, false, false, false, false, false] rfl rfl (any_of HT_.out (by kernel_rfl)) (fun _ _ _ h => h) (Or.inr ⟨by rfl, rfl⟩) ?_ ?_
                          rotate_left
                          · simp only [Act.put, List.setIfInBounds_toArray, List.set_cons_zero, List.set_cons_succ, i64_w, i32_w]
                            rfl
                          refine pure_ (i := 11) (N := some 75) (v := undef) (a' := ?_) #[true, true, true, true, true, true, true, true, true, true, true, true, false, false, false, false] rfl rfl (any_of HT_.out (by kernel_rfl)) (fun _ _ _ h => h) (Or.inr ⟨by rfl, rfl⟩) ?_ ?_
                          rotate_left
                          · simp only [Act.put, List.setIfInBounds_toArray, List.set_cons_zero, List.set_cons_succ, i64_w, i32_w]
                            rfl
                          refine pure_ (i := 12) (N := some 76) (v := undef) (a' := ?_) #[true, true, true, true, true, true, true, true, true, true, true, true, true, false, false, false] rfl rfl (any_of HT_.out (by kernel_rfl)) (fun _ _ _ h => h) (Or.inr ⟨by rfl, rfl⟩) ?_ ?_
                          rotate_left
                          · simp only [Act.put, List.setIfInBounds_toArray, List.set_cons_zero, List.set_cons_succ, i64_w, i32_w]
                            rfl
                          refine pure_ (i := 13) (N := some 77) (v := undef) (a' := ?_) #[true, true, true, true, true, true, true, true, true, true, true, true, true, true, false, false] rfl rfl (any_of HT_.out (by kernel_rfl)) (fun _ _ _ h => h) (Or.inr ⟨by rfl, rfl⟩) ?_ ?_
                          rotate_left
                          · simp only [Act.put, List.setIfInBounds_toArray, List.set_cons_zero, List.set_cons_succ, i64_w, i32_w]
                            rfl
                          refine pure_ (i := 14) (N := some 78) (v := undef) (a' := ?_) #[true, true, true, true, true, true, true, true, true, true, true, true, true, true, true, false] rfl rfl (any_of HT_.out (by kernel_rfl)) (fun _ _ _ h => h) (Or.inr ⟨by rfl, rfl⟩) ?_ ?_
                          rotate_left
                          · simp only [Act.put, List.setIfInBounds_toArray, List.set_cons_zero, List.set_cons_succ, i64_w, i32_w]
                            rfl
                          refine pure_ (i := 15) (N := some 79) (v := ?_) (a' := ?_) #[true, true, true, true, true, true, true, true, true, true, true, true, true, true, true, true] rfl rfl (any_of HT_.out (by kernel_rfl)) (fun _ _ _ h => h) (Or.inl ⟨by rfl, ?_⟩) ?_ ?_
                          rotate_left
                          · intro w'
                            go_simp
                            with_reducible rfl
                          rotate_left
                          · simp only [Act.put, List.setIfInBounds_toArray, List.set_cons_zero, List.set_cons_succ, i64_w, i32_w]
                            rfl
                          refine done_ (done_of HT_.out (by kernel_rfl)) ?_
                          try go_wp2
                          go_meet
                          case rel => exact ⟨by rw [c34b0, Bool.true_or], HB⟩
                        · have c34b0 : decide (lvl nodes x.f1 ≤ x.f0) = false := decide_eq_false c34
                          have n0_ := Aside0.mk (blk_drew BK115.out)
                          have n1_ := Aside0.mk (blk_drew BK117.out)
                          have n2_ := Aside0.mk (below_drew1 HB.out)
                          clear BK115
                          clear BK117
                          clear HB
                          have BK115 := n0_
                          have BK117 := n1_
                          have HB := n2_
                          clear n0_ n1_ n2_
                          refine start_ (n := 16) (S := fun w' => w'.cell? ⟨w.heap.size, 0, none⟩ = some (.slice (some ad) nodes.length c) ∧ w'.cell? ⟨w.heap.size, 1, none⟩ = some (.int .i64 root) ∧ w'.cell? ⟨wr.heap.size, 0, none⟩ = some (.int .i64 x.f0) ∧ w'.cell? ⟨wr.heap.size, 1, none⟩ = some (.int .i64 x.f1) ∧ w'.cell? ⟨wr.heap.size, 2, none⟩ = some (.int .i64 x.f2)) (ds := []) #[false, false, false, false, false, false, false, false, false, false, false, false, false, false, false, false] (by kernel_rfl) rfl rfl ⟨(blk_cell BK115.out 0).trans rfl, (blk_cell BK115.out 1).trans rfl, (blk_cell BK117.out 0).trans rfl, (blk_cell BK117.out 1).trans rfl, (blk_cell BK117.out 2).trans rfl⟩ (fun hHeld => ?_); refine with_tabW tabC bitsC (fun HT_ HW_ => ?_)
                          generalize (wr.alloc (.cells #[.int .i64 x.f0, .int .i64 x.f1, .int .i64 x.f2] 74)).drew = w38 at BK115 BK117 HB hHeld ⊢
                          refine pure_ (i := 1) (N := some 65) (v := ?_) (a' := ?_) #[false, true, false, false, false, false, false, false, false, false, false, false, false, false, false, false] rfl rfl (any_of HT_.out (by kernel_rfl)) (fun _ _ _ h => h) (Or.inl ⟨by rfl, ?_⟩) ?_ ?_
                          rotate_left
                          · intro w'
                            go_simp
                            with_reducible rfl
                          rotate_left
                          · simp only [Act.put, List.setIfInBounds_toArray, List.set_cons_zero, List.set_cons_succ, i64_w, i32_w]
                            rfl
                          refine pure_ (i := 4) (N := some 68) (v := ?_) (a' := ?_) #[false, true, false, false, true, false, false, false, false, false, false, false, false, false, false, false] rfl rfl (any_of HT_.out (by kernel_rfl)) (fun _ _ _ h => h) (Or.inl ⟨by rfl, ?_⟩) ?_ ?_
                          rotate_left
                          · intro w'
                            go_simp
                            with_reducible rfl
                          rotate_left
                          · simp only [Act.put, List.setIfInBounds_toArray, List.set_cons_zero, List.set_cons_succ, i64_w, i32_w]
                            rfl
                          refine take_ (i := 0) (N := some 64) (v := ?_) (a' := ?_) #[true, true, false, false, true, false, false, false, false, false, false, false, false, false, false, false] rfl rfl (take_ofW HT_.out HW_.out (by kernel_rfl)) (fun _ _ _ h => h) (Or.inl ⟨by rfl, ?_⟩) hHeld ?_ ?_
                          rotate_left
                          · rintro w' ⟨s0, s1, s2, s3, s4⟩
                            go_simp
                            with_reducible rfl
                          rotate_left
                          · simp only [Act.put, List.setIfInBounds_toArray, List.set_cons_zero, List.set_cons_succ, i64_w, i32_w]
                            rfl
                          refine take_ (i := 2) (N := some 66) (v := ?_) (a' := ?_) #[true, true, true, false, true, false, false, false, false, false, false, false, false, false, false, false] rfl rfl (take_ofW HT_.out HW_.out (by kernel_rfl)) (fun _ _ _ h => h) (Or.inl ⟨by rfl, ?_⟩) hHeld ?_ ?_
                          rotate_left
                          · rintro w' ⟨s0, s1, s2, s3, s4⟩
                            go_simp
                            with_reducible rfl
                          rotate_left
                          · simp only [Act.put, List.setIfInBounds_toArray, List.set_cons_zero, List.set_cons_succ, i64_w, i32_w]
                            rfl
                          refine take_ (i := 5) (N := some 69) (v := ?_) (a' := ?_) #[true, true, true, false, true, true, false, false, false, false, false, false, false, false, false, false] rfl rfl (take_ofW HT_.out HW_.out (by kernel_rfl)) (fun _ _ _ h => h) (Or.inl ⟨by rfl, ?_⟩) hHeld ?_ ?_
                          rotate_left
                          · rintro w' ⟨s0, s1, s2, s3, s4⟩
                            go_simp
                            with_reducible rfl
                          rotate_left
                          · simp only [Act.put, List.setIfInBounds_toArray, List.set_cons_zero, List.set_cons_succ, i64_w, i32_w]
                            rfl
                          refine one_ (i := 3) (N := some 67) #[true, true, true, true, true, true, false, false, false, false, false, false, false, false, false, false] rfl rfl (one_of HT_.out (by kernel_rfl)) (by decide) (fun K hK => ?_)
                          refine goes_ Tryd.func53 (by kernel_rfl) rfl #[.agg #[.slice (some ad) nodes.length c, .int .i64 root], .int .i64 x.f1] (by rfl) rfl rfl (by (try simp only [List.map_toArray, List.map_cons, List.map_nil]); first | done | rfl | (simp only [List.length_drop, List.length_take]; rfl)) ?_
                          with_reducible refine (diagram_level.calls _ _ nodes root x.f1 (lvl nodes x.f1) _ ?side1 ?side2 A33.out).mono ?_
                          (case side1 => repeat (first | exact (Kd.C_below HCX.out HB.out) | (with_reducible refine Kd.C_alloc ?_ _) | (with_reducible refine Kd.C_drewN ?_ _) | (with_reducible refine Kd.C_drew ?_)))
                          (case side2 => exact hc)
                          rintro e w39 ⟨rfl, hb⟩
                          refine ⟨_, rfl, ?_⟩
                          have n0_ := Aside0.mk (blk_below (g := w.heap.size) (o := .cells #[.slice (some ad) nodes.length c, .int .i64 root] 30 (0, 0)) (by (with_reducible repeat (first | refine blk_drewN ?_ _ | refine blk_drew ?_ | refine blk_alloc ?_ _)); exact BK115.out) hb)
                          have n1_ := Aside0.mk (blk_below (g := wr.heap.size) (o := .cells #[.int .i64 x.f0, .int .i64 x.f1, .int .i64 x.f2] 74 (0, 0)) (by (with_reducible repeat (first | refine blk_drewN ?_ _ | refine blk_drew ?_ | refine blk_alloc ?_ _)); exact BK117.out) hb)
                          have n2_ := Aside0.mk (below_step (by repeat (first | (with_reducible first | exact HB.out | apply below_alloc | apply pw_below_drewN | apply below_drew1 | refine below_set ?_ GE115.out | refine below_set ?_ GE117.out) | exact HB.out)) hb)
                          clear BK115
                          clear BK117
                          clear HB
                          have BK115 := n0_
                          have BK117 := n1_
                          have HB := n2_
                          clear n0_ n1_ n2_
                          (try clear hb)
                          (try clear hb2)
                          (try clear hk)
                          (try clear hi)
                          refine hK.out _ _ ⟨(blk_cell BK115.out 0).trans rfl, (blk_cell BK115.out 1).trans rfl, (blk_cell BK117.out 0).trans rfl, (blk_cell BK117.out 1).trans rfl, (blk_cell BK117.out 2).trans rfl⟩ (fun hHeld => ?_)
                          clear hK K
                          refine norm_ (a' := ?_) ?_ ?_
                          rotate_left
                          · show Act.put _ (some 67) _ = _
                            simp only [Act.put, List.setIfInBounds_toArray, List.set_cons_zero, List.set_cons_succ, i64_w, i32_w]
                            rfl
                          refine pure_ (i := 6) (N := some 70) (v := ?_) (a' := ?_) #[true, true, true, true, true, true, true, false, false, false, false, false, false, false, false, false] rfl rfl (any_of HT_.out (by kernel_rfl)) (fun _ _ _ h => h) (Or.inl ⟨by rfl, ?_⟩) ?_ ?_
                          rotate_left
                          · intro w'
                            go_simp
                            with_reducible rfl
                          rotate_left
                          · simp only [Act.put, List.setIfInBounds_toArray, List.set_cons_zero, List.set_cons_succ, i64_w, i32_w]
                            rfl
                          refine pure_ (i := 7) (N := some 71) (v := ?_) (a' := ?_) #[true, true, true, true, true, true, true, true, false, false, false, false, false, false, false, false] rfl rfl (any_of HT_.out (by kernel_rfl)) (fun _ _ _ h => h) (Or.inl ⟨by rfl, ?_⟩) ?_ ?_
                          rotate_left
                          · intro w'
                            go_simp
                            with_reducible rfl
                          rotate_left
                          · simp only [Act.put, List.setIfInBounds_toArray, List.set_cons_zero, List.set_cons_succ, i64_w, i32_w]
                            rfl
                          refine pure_ (i := 9) (N := some 73) (v := ?_) (a' := ?_) #[true, true, true, true, true, true, true, true, false, true, false, false, false, false, false, false] rfl rfl (any_of HT_.out (by kernel_rfl)) (fun _ _ _ h => h) (Or.inl ⟨by rfl, ?_⟩) ?_ ?_
                          rotate_left
                          · intro w'
                            go_simp
                            with_reducible rfl
                          rotate_left
                          · simp only [Act.put, List.setIfInBounds_toArray, List.set_cons_zero, List.set_cons_succ, i64_w, i32_w]
                            rfl
                          refine pure_ (i := 12) (N := some 76) (v := ?_) (a' := ?_) #[true, true, true, true, true, true, true, true, false, true, false, false, true, false, false, false] rfl rfl (any_of HT_.out (by kernel_rfl)) (fun _ _ _ h => h) (Or.inl ⟨by rfl, ?_⟩) ?_ ?_
                          rotate_left
                          · intro w'
                            go_simp
                            with_reducible rfl
                          rotate_left
                          · simp only [Act.put, List.setIfInBounds_toArray, List.set_cons_zero, List.set_cons_succ, i64_w, i32_w]
                            rfl
                          refine take_ (i := 8) (N := some 72) (v := ?_) (a' := ?_) #[true, true, true, true, true, true, true, true, true, true, false, false, true, false, false, false] rfl rfl (take_ofW HT_.out HW_.out (by kernel_rfl)) (fun _ _ _ h => h) (Or.inl ⟨by rfl, ?_⟩) hHeld ?_ ?_
                          rotate_left
                          · rintro w' ⟨s0, s1, s2, s3, s4⟩
                            go_simp
                            with_reducible rfl
                          rotate_left
                          · simp only [Act.put, List.setIfInBounds_toArray, List.set_cons_zero, List.set_cons_succ, i64_w, i32_w]
                            rfl
                          refine take_ (i := 10) (N := some 74) (v := ?_) (a' := ?_) #[true, true, true, true, true, true, true, true, true, true, true, false, true, false, false, false] rfl rfl (take_ofW HT_.out HW_.out (by kernel_rfl)) (fun _ _ _ h => h) (Or.inl ⟨by rfl, ?_⟩) hHeld ?_ ?_
                          rotate_left
                          · rintro w' ⟨s0, s1, s2, s3, s4⟩
                            go_simp
                            with_reducible rfl
                          rotate_left
                          · simp only [Act.put, List.setIfInBounds_toArray, List.set_cons_zero, List.set_cons_succ, i64_w, i32_w]
                            rfl
                          refine take_ (i := 13) (N := some 77) (v := ?_) (a' := ?_) #[true, true, true, true, true, true, true, true, true, true, true, false, true, true, false, false] rfl rfl (take_ofW HT_.out HW_.out (by kernel_rfl)) (fun _ _ _ h => h) (Or.inl ⟨by rfl, ?_⟩) hHeld ?_ ?_
                          rotate_left
                          · rintro w' ⟨s0, s1, s2, s3, s4⟩
                            go_simp
                            with_reducible rfl
                          rotate_left
                          · simp only [Act.put, List.setIfInBounds_toArray, List.set_cons_zero, List.set_cons_succ, i64_w, i32_w]
                            rfl
                          refine one_ (i := 11) (N := some 75) #[true, true, true, true, true, true, true, true, true, true, true, true, true, true, false, false] rfl rfl (one_of HT_.out (by kernel_rfl)) (by decide) (fun K hK => ?_)
                          refine goes_ Tryd.func53 (by kernel_rfl) rfl #[.agg #[.slice (some ad) nodes.length c, .int .i64 root], .int .i64 x.f2] (by rfl) rfl rfl (by (try simp only [List.map_toArray, List.map_cons, List.map_nil]); first | done | rfl | (simp only [List.length_drop, List.length_take]; rfl)) ?_
                          with_reducible refine (diagram_level.calls _ _ nodes root x.f2 (lvl nodes x.f2) _ ?side1 ?side2 A37.out).mono ?_
                          (case side1 => repeat (first | exact (Kd.C_below HCX.out HB.out) | (with_reducible refine Kd.C_alloc ?_ _) | (with_reducible refine Kd.C_drewN ?_ _) | (with_reducible refine Kd.C_drew ?_)))
                          (case side2 => exact hc)
                          rintro e w40 ⟨rfl, hb⟩
                          refine ⟨_, rfl, ?_⟩
                          have n0_ := Aside0.mk (blk_below (g := w.heap.size) (o := .cells #[.slice (some ad) nodes.length c, .int .i64 root] 30 (0, 0)) (by (with_reducible repeat (first | refine blk_drewN ?_ _ | refine blk_drew ?_ | refine blk_alloc ?_ _)); exact BK115.out) hb)
                          have n1_ := Aside0.mk (blk_below (g := wr.heap.size) (o := .cells #[.int .i64 x.f0, .int .i64 x.f1, .int .i64 x.f2] 74 (0, 0)) (by (with_reducible repeat (first | refine blk_drewN ?_ _ | refine blk_drew ?_ | refine blk_alloc ?_ _)); exact BK117.out) hb)
                          have n2_ := Aside0.mk (below_step (by repeat (first | (with_reducible first | exact HB.out | apply below_alloc | apply pw_below_drewN | apply below_drew1 | refine below_set ?_ GE115.out | refine below_set ?_ GE117.out) | exact HB.out)) hb)
                          clear BK115
                          clear BK117
                          clear HB
                          have BK115 := n0_
                          have BK117 := n1_
                          have HB := n2_
                          clear n0_ n1_ n2_
                          (try clear hb)
                          (try clear hb2)
                          (try clear hk)
                          (try clear hi)
                          refine hK.out _ _ ⟨(blk_cell BK115.out 0).trans rfl, (blk_cell BK115.out 1).trans rfl, (blk_cell BK117.out 0).trans rfl, (blk_cell BK117.out 1).trans rfl, (blk_cell BK117.out 2).trans rfl⟩ (fun hHeld => ?_)
                          clear hK K
                          refine norm_ (a' := ?_) ?_ ?_
                          rotate_left
                          · show Act.put _ (some 75) _ = _
                            simp only [Act.put, List.setIfInBounds_toArray, List.set_cons_zero, List.set_cons_succ, i64_w, i32_w]
                            rfl
                          refine pure_ (i := 14) (N := some 78) (v := ?_) (a' := ?_) #[true, true, true, true, true, true, true, true, true, true, true, true, true, true, true, false] rfl rfl (any_of HT_.out (by kernel_rfl)) (fun _ _ _ h => h) (Or.inl ⟨by rfl, ?_⟩) ?_ ?_
                          rotate_left
                          · intro w'
                            go_simp
                            with_reducible rfl
                          rotate_left
                          · simp only [Act.put, List.setIfInBounds_toArray, List.set_cons_zero, List.set_cons_succ, i64_w, i32_w]
                            rfl
                          refine pure_ (i := 15) (N := some 79) (v := ?_) (a' := ?_) #[true, true, true, true, true, true, true, true, true, true, true, true, true, true, true, true] rfl rfl (any_of HT_.out (by kernel_rfl)) (fun _ _ _ h => h) (Or.inl ⟨by rfl, ?_⟩) ?_ ?_
                          rotate_left
                          · intro w'
                            go_simp
                            with_reducible rfl
                          rotate_left
                          · simp only [Act.put, List.setIfInBounds_toArray, List.set_cons_zero, List.set_cons_succ, i64_w, i32_w]
                            rfl
                          refine done_ (done_of HT_.out (by kernel_rfl)) ?_
                          try go_wp2
                          go_meet
                          case rel => exact ⟨by rw [c34b0, Bool.false_or], HB⟩
                      case rest =>
                        obtain ⟨rfl, HBW⟩ := hcut
                        have hb1 : Below w.heap.size w wc := (below_alloc HA.out.2.1 _).trans (HBW.out.mono (by have := HA.out.2.1.size; rw [World.size_alloc]; omega))
                        have HB1 := Lib.hid hb1
                        clear hb1
                        by_cases l1 : lvl nodes x.f1 ≤ x.f0
                        · rw [decide_eq_true l1, Bool.true_or]
                          go_wp2_with fail
                          go_ret
                          exact .mk_ (HNO.out (okBr_lo l1)) HB1.out
                        · by_cases l2 : lvl nodes x.f2 ≤ x.f0
                          · rw [decide_eq_true l2, Bool.or_true]
                            go_wp2_with fail
                            go_ret
                            exact .mk_ (HNO.out (okBr_hi l2)) HB1.out
                          · rw [decide_eq_false l1, decide_eq_false l2, Bool.or_false]
                            have hok : okD nodes (k + 1) = true := by rw [okD, HA.out.2.2.1, HX.out]; exact okBr_yes hA hin l1 l2
                            have HOK := Lib.hid hok
                            have hbx := blk_below (blk_new wr (.cells #[.int .i64 x.f0, .int .i64 x.f1, .int .i64 x.f2] 74)) HBW.out
                            have e0 : wc.cell? ⟨wr.heap.size, 0, none⟩ = some (.int .i64 x.f0) := (blk_cell hbx 0).trans rfl
                            have e1 : wc.cell? ⟨wr.heap.size, 1, none⟩ = some (.int .i64 x.f1) := (blk_cell hbx 1).trans rfl
                            have e2 : wc.cell? ⟨wr.heap.size, 2, none⟩ = some (.int .i64 x.f2) := (blk_cell hbx 2).trans rfl
                            have hmc := HMX.out.blk (W' := wc) (HBW.out.block _ HMX.out.lt)
                            have hbd := blk_below HBK.out HBW.out
                            have HMC := Lib.hid hmc
                            have HBD := Lib.hid hbd
                            clear hok hbx hmc hbd
                            go_wp2_with (refine wp_mapput (κ := Br) (β := Bool) (kv := brV) (en := Lit.bool) (zb := false) _ rfl _ _ _ 95 rfl lawBr Tryd.underlying95 brV_inj HMC.out (by unfold maxLen; omega) rfl x true (.bool true) kl rfl rfl HKL.out (elBool true) ?_; intro w5 hm5 ht5; have HM5 := Lib.hid hm5; have HT5 := Lib.hid ht5; clear hm5 ht5)
                            go_roundg (gk - 1)
                            case measure => have := HA.out.1; omega
                            case rel =>
                              refine ⟨k + 1, by go_num, by have := HA.out.1; omega, pw_below_grown HB1.out _ HB1.out.size HT5.out.grown (fun q hq => by injection hq with hq; omega), HOK.out, blk_grown HBD.out HT5.out.grown (by intro h; injection h with h; omega), ?_⟩
                              have := HM5.out
                              rw [seen_succ HX.out] at this
                              exact this
                · have hnA : ¬ okA k x := fun h => g5 h.2.2.2.2.2.1
                  go_wp2_with fail
                  go_ret
                  exact .mk_ (HNO.out (okBr_no hnA)) (below_alloc HA.out.2.1 _)
              · have hnA : ¬ okA k x := fun h => g4 h.2.2.2.2.1
                go_wp2_with fail
                go_ret
                exact .mk_ (HNO.out (okBr_no hnA)) (below_alloc HA.out.2.1 _)
            · have hnA : ¬ okA k x := fun h => g3 h.2.2.2.1
              go_wp2_with fail
              go_ret
              exact .mk_ (HNO.out (okBr_no hnA)) (below_alloc HA.out.2.1 _)
          · have hnA : ¬ okA k x := fun h => g2 h.2.2.1
            go_wp2_with fail
            go_ret
            exact .mk_ (HNO.out (okBr_no hnA)) (below_alloc HA.out.2.1 _)
        · have hnA : ¬ okA k x := fun h => g1 h.2.1
          go_wp2_with fail
          go_ret
          exact .mk_ (HNO.out (okBr_no hnA)) (below_alloc HA.out.2.1 _)
      · have hnA : ¬ okA k x := fun h => g0 h.1
        go_wp2_with fail
        go_ret
        exact .mk_ (HNO.out (okBr_no hnA)) (below_alloc HA.out.2.1 _)
    · have hkf : k = nodes.length := by have := HA.out.1; omega
      subst hkf
      have hcx := Kd.C_below HC.out HA.out.2.1
      have hdn := okD_dn HA.out.2.2.1
      have k0 : wr.cell? ⟨w.heap.size, 0, none⟩ = some (.slice A nodes.length c) := (blk_cell HA.out.2.2.2.1 0).trans rfl
      have k1 : wr.cell? ⟨w.heap.size, 1, none⟩ = some (.int .i64 root) := (blk_cell HA.out.2.2.2.1 1).trans rfl
      have HCX := Lib.hid hcx
      clear hcx
      by_cases r0 : 0 ≤ root
      · by_cases r1 : root ≤ nodes.length + 1
        · have hdl := dg_len hdn r0 (by omega)
          have hdg := fun w1 (hb : Below wr.heap.size wr w1) pb kn hp => dg_any A c pb kn nodes root w1 (Kd.C_below HCX.out hb) hc (by omega) hdn r0 (by omega) (by omega) hp
          have k1' : (wr.alloc (.cells #[.slice A nodes.length c, .map none] 100)).cell? ⟨w.heap.size, 1, none⟩ = some (.int .i64 root) := (blk_cell (blk_alloc HA.out.2.2.2.1 _) 1).trans rfl
          have HDG := Lib.hid hdg
          clear hdg
          go_wp2_with fail
          refine (HDG.out _ (below_alloc (Below.refl _ _) _) _ _ (blk_new _ _)).mono ?_
          rintro e w1 ⟨hb1, A', c', rfl, hc', hC'⟩
          have hb2 : Below wr.heap.size wr w1 := (below_alloc (Below.refl _ _) _).trans (hb1.mono (by simp))
          have hb3 : Below w.heap.size w w1 := HA.out.2.1.trans (hb2.mono HA.out.2.1.size)
          have hbd := blk_below HA.out.2.2.2.1 hb2
          have hcd := Kd.C_below HCX.out hb2
          have HCD := Lib.hid (Kd.C_alloc hcd (.cells #[.slice A' (dgP nodes root).2.out.length c', .int .i64 (dgP nodes root).1] 30))
          have HC' := Lib.hid (Kd.C_alloc hC' (.cells #[.slice A' (dgP nodes root).2.out.length c', .int .i64 (dgP nodes root).1] 30))
          have m0 : (w1.alloc (.cells #[.slice A' (dgP nodes root).2.out.length c', .int .i64 (dgP nodes root).1] 30)).cell? ⟨w.heap.size, 0, none⟩ = some (.slice A nodes.length c) := (blk_cell (blk_alloc hbd _) 0).trans rfl
          have m1 : (w1.alloc (.cells #[.slice A' (dgP nodes root).2.out.length c', .int .i64 (dgP nodes root).1] 30)).cell? ⟨w.heap.size, 1, none⟩ = some (.int .i64 root) := (blk_cell (blk_alloc hbd _) 1).trans rfl
          have HB3 := Lib.hid hb3
          have hsm := dg_same (dgP nodes root).2.out nodes (dgP nodes root).1 root (by omega)
          have HSM := Lib.hid hsm
          have hfin : dgC nodes root = if (decide ((dgP nodes root).1 = root ∧ (dgP nodes root).2.out = nodes)) = true then 0 else 20 := by
            rw [dgC, if_neg (by omega), dgOK, HA.out.2.2.1, decide_eq_true r0, decide_eq_true r1]
            simp only [Bool.true_and]
          have HFIN := Lib.hid hfin
          clear hb1 hb2 hb3 hbd hcd hC' hsm hfin hdl hdn
          go_wp2_with fail
          refine (diagram_Same.calls _ A' c' _ _ A c nodes root _ _ HC'.out hc' HCD.out hc HSM.out).mono ?_
          rintro e w2 ⟨rfl, hb4⟩
          have hb5 : Below w.heap.size w w2 := (below_alloc HB3.out _).trans (hb4.mono (by have := HB3.out.size; rw [World.size_alloc]; omega))
          have HB5 := Lib.hid hb5
          clear hb4 hb5
          cases hdd : decide ((dgP nodes root).1 = root ∧ (dgP nodes root).2.out = nodes) with
          | true =>
            go_wp2_with fail
            go_ret
            exact .mk_ (by rw [HFIN.out, hdd]; rfl) HB5.out
          | false =>
            go_wp2_with fail
            go_ret
            exact .mk_ (by rw [HFIN.out, hdd]; rfl) HB5.out
        · have hd : decide (root ≤ nodes.length + 1) = false := decide_eq_false r1
          go_wp2_with fail
          go_ret
          exact .mk_ (by rw [dgC, if_neg (by omega), dgOK, hd]; simp) HA.out.2.1
      · have hd : decide (0 ≤ root) = false := decide_eq_false r0
        go_wp2_with fail
        go_ret
        exact .mk_ (by rw [dgC, if_neg (by omega), dgOK, hd]; simp) HA.out.2.1

set_option maxRecDepth 100000 in
/-- diagram.Check, walked whole. -/
theorem dcheck_any (A : Option Addr) (c : Nat) (nodes : List Br) (root : Int) (w : World) (hC : k74.C w A nodes.length nodes) (hc : nodes.length ≤ c) :
    Calls Tryd.prog 22 #[.agg #[.slice A nodes.length c, .int .i64 root]] w (DcP nodes root w) := by
  by_cases hl : nodes.length ≤ 4096
  · exact dcheck_in A c nodes root w hC hc hl
  · have hl' : (4096 : Int) < nodes.length := by omega
    go_enter Tryd.func22, Tryd.ntmps22
    go_wp2_with fail
    go_ret
    exact .mk_ (by rw [dgC, if_pos (by omega)]) (below_alloc (Below.refl _ _) _)
end Go.Proofs.YtgpnpfjbkaehlaaDoor.Wk
namespace Go.Proofs.YtgpnpfjbkaehlaaDoor.Wk
open Go.RowKit Go.Shelf Go.Lib Go.Maps Go.Proofs.YtgpnpfjbkaehlaaDoorW.PrintWords Go.Proofs.YtgpnpfjbkaehlaaDoorW.PrintLast Go.Proofs.YtgpnpfjbkaehlaaDoorW.PrintMore Go.Proofs.YtgpnpfjbkaehlaaDoor.Nt Go.Proofs.YtgpnpfjbkaehlaaDoor.Fm
set_option linter.unusedVariables false
set_option linter.unusedSimpArgs false

/-- The numbers in an array. -/
def NArr (arr : Array Value) (n : Nat) (num : Int → Option Int) : Prop := arr.size = n ∧ ∀ i : Nat, i < n → arr[i]? = some (.int .i64 ((num (i + 2 : Nat)).getD 0))
/-- New numbers are positive. -/
def VPos (s : VS) : Prop := ∀ n m, 2 ≤ n → s.num n = some m → 0 < m

theorem VPos.add {s : VS} (h : VPos s) (n : Int) (b : Br) : VPos (s.add n b) := by
  intro y m hy hm
  simp only [VS.add] at hm
  split at hm
  · injection hm with hm; omega
  · exact h y m hy hm
theorem vis_pos (nodes : List Br) : ∀ (k : Nat) (n : Int) (s : VS), VPos s → VPos (visP nodes k n s).2 := by
  intro k
  induction k with
  | zero => intro n s h; exact h
  | succ k ih =>
    intro n s h
    rw [visP]
    cases s.num n with
    | some m => exact h
    | none =>
      dsimp only
      cases nodes[(n - 2).toNat]? with
      | none => exact h
      | some x => exact (ih _ _ (ih _ _ h)).add _ _

theorem NArr.add {arr : Array Value} {n : Nat} {s : VS} (h : NArr arr n s.num) (y : Int) (b : Br) (h0 : 2 ≤ y) : NArr (arr.setIfInBounds (y - 2).toNat (.int .i64 ((s.out.length + 2 : Nat) : Int))) n (s.add y b).num := by
  refine ⟨by simp [h.1], fun i hi => ?_⟩
  rw [Array.getElem?_setIfInBounds]
  by_cases hy : (y - 2).toNat = i
  · rw [if_pos hy, if_pos (by rw [h.1]; omega)]
    simp only [VS.add]
    rw [if_pos (by omega)]
    rfl
  · rw [if_neg hy, h.2 i hi]
    simp only [VS.add]
    rw [if_neg (by omega)]

/-- What a walk of the reference's goes on, and what it has done. -/
structure WI (A : Option Addr) (c : Nat) (nodes : List Br) (w0 : World) (pw gn cn NB : Nat) (W : World) (fv : Value) (s : VS) : Prop where
  bel : Below w0.heap.size w0 W
  nb : NB ≤ W.heap.size
  hp : W.heap[pw]? = some (.cells #[.slice A nodes.length c, .slice (some ⟨gn, 0, none⟩) nodes.length cn, fv] 172 (0, 0))
  hn : ∃ arr, W.heap[gn]? = some (.cells arr 3 (0, 0)) ∧ NArr arr nodes.length s.num
  row : k74.R 74 W 0 (fun k => NB ≤ k) fv s.out
  pos : VPos s

theorem WI.fv_lt {A : Option Addr} {c : Nat} {nodes : List Br} {w0 : World} {pw gn cn NB : Nat} {W : World} {fv : Value} {s : VS} (h : WI A c nodes w0 pw gn cn NB W fv s) : ∀ k, some k = fv.ownBlock → NB ≤ k ∧ k < W.heap.size := by
  intro k hk
  refine ⟨h.row.1 k hk.symm, ?_⟩
  obtain ⟨cells, hc⟩ := own_typed (Kd.R_own h.row).choose_spec k hk.symm
  exact blk_lt hc
theorem WI.below {A : Option Addr} {c : Nat} {nodes : List Br} {w0 : World} {pw gn cn NB : Nat} {W W' : World} {fv : Value} {s : VS} (h : WI A c nodes w0 pw gn cn NB W fv s) (hb : Below W.heap.size W W') : WI A c nodes w0 pw gn cn NB W' fv s := by
  obtain ⟨arr, h1, h2⟩ := h.hn
  exact ⟨h.bel.trans (hb.mono h.bel.size), Nat.le_trans h.nb hb.size, blk_below h.hp hb, ⟨arr, blk_below h1 hb, h2⟩, Kd.R_below h.row hb, h.pos⟩

def WisC (A : Option Addr) (c : Nat) (nodes : List Br) (w0 : World) (pw gn cn NB k : Nat) : Prop :=
  ∀ (n : Int) (s : VS) (W : World) (fv : Value), WI A c nodes w0 pw gn cn NB W fv s → s.Ok → 0 ≤ n → n < k → n < nodes.length + 2 → (visP nodes k n s).2.out.length < 4294967296 →
    Calls Tryd.prog 122 #[.pointer (some ⟨pw, 0, none⟩), .int .i64 n] W fun e w' =>
      e = .returned (.int .i64 (visP nodes k n s).1) ∧ ∃ fv', WI A c nodes w0 pw gn cn NB w' fv' (visP nodes k n s).2 ∧ TurnO (VO pw gn fv) W (VO pw gn fv') w'

set_option maxHeartbeats 4000000 in
set_option maxRecDepth 100000 in
theorem wis_step (A : Option Addr) (c : Nat) (nodes : List Br) (w0 : World) (pw gn cn NB k : Nat) (hC : k74.C w0 A nodes.length nodes) (hc : nodes.length ≤ c) (hcn : nodes.length ≤ cn)
    (hn : nodes.length < 4294967296) (hdn : Dn nodes) (hb : w0.heap.size ≤ pw ∧ w0.heap.size ≤ gn ∧ pw < NB ∧ gn < NB ∧ pw ≠ gn)
    (ih : WisC A c nodes w0 pw gn cn NB k) : WisC A c nodes w0 pw gn cn NB (k + 1) := by
  intro n s W fv hV hok hn0 hnk hnn hlen
  have p0 : W.cell? ⟨pw, 0, none⟩ = some (.slice A nodes.length c) := (blk_cell hV.hp 0).trans rfl
  have p1 : W.cell? ⟨pw, 1, none⟩ = some (.slice (some ⟨gn, 0, none⟩) nodes.length cn) := (blk_cell hV.hp 1).trans rfl
  have HV := Lib.hid hV
  have HOK := Lib.hid hok
  have HDN := Lib.hid hdn
  have HC := Lib.hid hC
  have HIH := Lib.hid ih
  have HLEN := Lib.hid hlen
  have HB := Lib.hid hb
  clear hV hok hdn hC ih hlen hb
  by_cases h2 : n < 2
  · have hnum : s.num n = some n := by
      have : n = 0 ∨ n = 1 := by omega
      rcases this with rfl | rfl
      · exact HOK.out.1
      · exact HOK.out.2
    rw [vis_hit hnum]
    clear hnum
    go_enter Tryd.func122, Tryd.ntmps122
    go_wp2_with fail
    go_ret
    exact ⟨rfl, fv, HV.out, TurnO.refl _ _⟩
  · obtain ⟨arr, hbn, hna⟩ := HV.out.hn
    have hil : (n - 2).toNat < nodes.length := by omega
    have g0 : W.cell? ⟨gn, (n - 2).toNat, none⟩ = some (.int .i64 ((s.num n).getD 0)) := (blk_cell hbn _).trans (by rw [hna.2 _ hil, show (((n - 2).toNat + 2 : Nat) : Int) = n by omega])
    have HBN := Lib.hid hbn
    have HNA := Lib.hid hna
    clear hbn hna
    cases hnum : s.num n with
    | some m =>
      have hm := HV.out.pos n m (by omega) hnum
      rw [hnum] at g0
      rw [vis_hit hnum]
      clear hnum
      go_enter Tryd.func122, Tryd.ntmps122
      go_wp2_with fail
      go_ret
      exact ⟨rfl, fv, HV.out, TurnO.refl _ _⟩
    | none =>
      rw [hnum] at g0
      obtain ⟨x, hx⟩ : ∃ x, nodes[(n - 2).toNat]? = some x := ⟨_, List.getElem?_eq_getElem hil⟩
      have hnew := vis_new (k := k) hnum hx
      have hlen := HLEN.out
      rw [hnew] at hlen ⊢
      obtain ⟨d1, d2, d3, d4⟩ := HDN.out _ x hx
      have o1 := vis_ok nodes k x.f1 s HOK.out
      have o2 := vis_ok nodes k x.f2 _ o1.1
      have hl2 : (visP nodes k x.f2 (visP nodes k x.f1 s).2).2.out.length + 1 < 4294967296 := by
        have := hlen
        simp only [VS.add, List.length_append, List.length_singleton] at this
        exact this
      obtain ⟨lo, s1, e1⟩ : ∃ lo s1, visP nodes k x.f1 s = (lo, s1) := ⟨_, _, rfl⟩
      obtain ⟨hi, s2, e2⟩ : ∃ hi s2, visP nodes k x.f2 s1 = (hi, s2) := ⟨_, _, rfl⟩
      rw [e1] at o1 o2 hl2
      dsimp only at o1 o2 hl2
      rw [e2] at o2 hl2
      dsimp only at o2 hl2
      rw [e1]
      dsimp only
      rw [e2]
      dsimp only
      obtain ⟨ad, rfl, _, x0, x1, x2⟩ := at_br (Kd.C_below HC.out HV.out.bel) hx
      have HE1 := Lib.hid e1
      have HE2 := Lib.hid e2
      have HO1 := Lib.hid o1
      have HO2 := Lib.hid o2
      clear hlen e1 e2 hx hnew o1 o2 hnum
      go_enter Tryd.func122, Tryd.ntmps122
      go_wp2_with fail
      refine (HIH.out x.f1 s _ fv (HV.out.below (below_alloc (Below.refl _ _) _)) HOK.out d1 (by omega) (by omega) (by rw [HE1.out]; show s1.out.length < _; have := HO2.out.2; omega)).mono ?_
      rintro e w1 ⟨he, fv1, hV1, ht1⟩
      rw [HE1.out] at hV1 he
      obtain rfl : e = .returned (.int .i64 lo) := he
      have hnb := HV.out.nb
      have hfl := HV.out.fv_lt
      obtain ⟨g1, g2, g3, g4, g5⟩ := HB.out
      have hxo : ¬ VO pw gn fv W.heap.size := by
        rintro (h | h | h)
        · omega
        · omega
        · have := hfl _ h; omega
      have hbx := ht1.blk (blk_new W _) hxo
      have x2' : w1.cell? ⟨W.heap.size, 2, none⟩ = some (.int .i64 x.f2) := (blk_cell hbx 2).trans rfl
      have HV1 := Lib.hid hV1
      have HT1 := Lib.hid ht1
      have HBX := Lib.hid hbx
      clear hV1 ht1 hbx hxo
      go_wp2_with fail
      refine (HIH.out x.f2 s1 _ fv1 HV1.out HO1.out.1 d3 (by omega) (by omega) (by rw [HE2.out]; show s2.out.length < _; omega)).mono ?_
      rintro e w2 ⟨he, fv2, hV2, ht2⟩
      rw [HE2.out] at hV2 he
      obtain rfl : e = .returned (.int .i64 hi) := he
      have hfl1 := HV1.out.fv_lt
      have hxo1 : ¬ VO pw gn fv1 W.heap.size := by
        intro h
        rcases HT1.out.2.1 _ h with h2 | h2
        · rcases h2 with h2 | h2 | h2
          · omega
          · omega
          · have := hfl _ h2; omega
        · simp at h2
          omega
      have hbx2 := ht2.blk HBX.out hxo1
      have x0' : w2.cell? ⟨W.heap.size, 0, none⟩ = some (.int .i64 x.f0) := (blk_cell hbx2 0).trans rfl
      have p2' : w2.cell? ⟨pw, 2, none⟩ = some fv2 := (blk_cell hV2.hp 2).trans rfl
      have p2'' : (w2.alloc (.cells #[.int .i64 x.f0, .int .i64 lo, .int .i64 hi] 74)).cell? ⟨pw, 2, none⟩ = some fv2 := (blk_cell (blk_alloc hV2.hp _) 2).trans rfl
      have HTT := Lib.hid ((below_turnO (below_alloc (Below.refl _ _) _) HT1.out).trans ht2)
      have HV2 := Lib.hid hV2
      clear hV2 ht2 hbx2 hxo1
      have hnb2 := HV2.out.nb
      have HR := Lib.hid (Kd.R_drew (Kd.R_alloc HV2.out.row (.cells #[.int .i64 x.f0, .int .i64 lo, .int .i64 hi] 74)))
      have hfl2 := HV2.out.fv_lt
      have HFP := Lib.hid (show some pw ≠ fv2.ownBlock from fun h => by have := hfl2 _ h; omega)
      have HFG := Lib.hid (show some gn ≠ fv2.ownBlock from fun h => by have := hfl2 _ h; omega)
      clear hfl2
      go_wp2_with fail
      go_region_law (refine step_append_R k74 rfl (.tmp 48) (.tmp 54) 28 74 _ 24 rfl Tryd.underlying28 info74 rfl (by decide) fv2 s2.out ⟨x.f0, lo, hi⟩ [.int .i64 x.f0, .int .i64 lo, .int .i64 hi] (fun k => NB ≤ k) (fun _ => False) rfl ⟨w2.heap.size, 0, none⟩ rfl (new_cells _ _ _ _ rfl) (k74_mkM _ _ _ ⟨x.f0, lo, hi⟩) (fun _ h => h.elim) (by intro k hk; simp at hk; omega) HR.out (by omega) (by decide) ?_; intro g cap w3 hR hg hat hlt1; have hB1 := blk_grown (w := World.drew _) (blk_alloc HV2.out.hp _) hg HFP.out; have c2' : w3.cell? ⟨pw, 2, none⟩ = some fv2 := (blk_cell hB1 2).trans rfl; have z2' := blk_free hB1 2; have HB1 := Lib.hid hB1; have HR1 := Lib.hid hR; have HG := Lib.hid hg; have HA := Lib.hid hat; clear hB1 hR hg hat)
      all_goals
        have q1 := blk_set HB1.out 2 (.slice (some ⟨g, 0, none⟩) (s2.out.length + 1) cap)
        have r1 : (w3.setCell ⟨pw, 2, none⟩ (.slice (some ⟨g, 0, none⟩) (s2.out.length + 1) cap)).cell? ⟨pw, 1, none⟩ = some (.slice (some ⟨gn, 0, none⟩) nodes.length cn) := (blk_cell q1 1).trans rfl
        have r2 : (w3.setCell ⟨pw, 2, none⟩ (.slice (some ⟨g, 0, none⟩) (s2.out.length + 1) cap)).cell? ⟨pw, 2, none⟩ = some (.slice (some ⟨g, 0, none⟩) (s2.out.length + 1) cap) := (blk_cell q1 2).trans rfl
        obtain ⟨arr2, hb2, hna2⟩ := HV2.out.hn
        have q2 := blk_far (blk_grown (w := World.drew _) (blk_alloc hb2 _) HG.out HFG.out) (p := ⟨pw, 2, none⟩) (Ne.symm g5) (.slice (some ⟨g, 0, none⟩) (s2.out.length + 1) cap)
        have r3 : (w3.setCell ⟨pw, 2, none⟩ (.slice (some ⟨g, 0, none⟩) (s2.out.length + 1) cap)).cell? ⟨gn, (n - 2).toNat, none⟩ = some (.int .i64 ((s2.num n).getD 0)) := (blk_cell q2 _).trans (by rw [hna2.2 _ hil, show (((n - 2).toNat + 2 : Nat) : Int) = n by omega])
        have z3 := blk_free q2 (n - 2).toNat
        have r4 : ∀ v, ((w3.setCell ⟨pw, 2, none⟩ (.slice (some ⟨g, 0, none⟩) (s2.out.length + 1) cap)).drew.setCell ⟨gn, (n - 2).toNat, none⟩ v).cell? ⟨pw, 2, none⟩ = some (.slice (some ⟨g, 0, none⟩) (s2.out.length + 1) cap) := fun v => (blk_cell (blk_far (w := World.drew _) q1 (p := ⟨gn, _, none⟩) g5 v) 2).trans rfl
        have Q1 := Lib.hid q1
        have Q2 := Lib.hid q2
        have HNA2 := Lib.hid hna2
        clear q1 q2 hb2 hna2
        go_wp2_with fail
        go_region
        all_goals
          go_wp2_with fail
          go_ret
          have hv : ((s2.out.length : Int) + 1 + 1) = ((s2.out.length + 2 : Nat) : Int) := by omega
          have hz0 := HV2.out.bel.size
          have hbw : Below w0.heap.size w0 (World.drew (w2.alloc (.cells #[.int .i64 x.f0, .int .i64 lo, .int .i64 hi] 74))) := below_drew (HV2.out.bel.trans (below_alloc (Below.refl _ _) _ |>.mono HV2.out.bel.size))
          have hb3 : Below w0.heap.size w0 w3 := pw_below_grown hbw _ hbw.size HG.out (fun q hq => by have := HV2.out.fv_lt q hq.symm; omega)
          have hb4 := below_drew ((hb3.setCell (p := ⟨pw, 2, none⟩) (by show w0.heap.size ≤ pw; omega) (.slice (some ⟨g, 0, none⟩) (s2.out.length + 1) cap)).setCell (p := ⟨gn, (n - 2).toNat, none⟩) (by show w0.heap.size ≤ gn; omega) (.int .i64 ((s2.out.length : Int) + 1 + 1)))
          have hs3 := HG.out.size
          have hsw : W.heap.size ≤ w2.heap.size := HTT.out.size
          have hs3' : w2.heap.size + 1 ≤ w3.heap.size := by
            have : (World.drew (w2.alloc (.cells #[.int .i64 x.f0, .int .i64 lo, .int .i64 hi] 74))).heap.size = w2.heap.size + 1 := World.size_alloc _ _
            omega
          refine ⟨ret_v (val_i (by omega)), .slice (some ⟨g, 0, none⟩) (s2.out.length + 1) cap, ⟨hb4, ?_, ?_, ?_, ?_, HV2.out.pos.add _ _⟩, ?_⟩
          · show NB ≤ (World.setCell (World.setCell w3 _ _) _ _).heap.size
            rw [World.size_setCell, World.size_setCell]
            omega
          · have := blk_far Q1.out (p := ⟨gn, (n - 2).toNat, none⟩) g5 (.int .i64 ((s2.out.length : Int) + 1 + 1))
            simpa using blk_drew this
          · refine ⟨_, blk_drew (blk_set Q2.out (n - 2).toNat _), ?_⟩
            rw [hv]
            exact HNA2.out.add n _ (by omega)
          · refine Kd.R_drew (Kd.R_far (Kd.R_far HR1.out (p := ⟨pw, 2, none⟩) (fun k hk => ?_) _) (p := ⟨gn, (n - 2).toNat, none⟩) (fun k hk => ?_) _)
            · show k ≠ pw
              have : NB ≤ k := hk
              omega
            · show k ≠ gn
              have : NB ≤ k := hk
              omega
          · have t0 : TurnO (VO pw gn fv) W (VO pw gn (.slice (some ⟨g, 0, none⟩) (s2.out.length + 1) cap)) w3 := by
              refine (HTT.out.below (below_drew (below_alloc (Below.refl _ _) _))).grown HG.out (fun i hi => HTT.out.2.1 i (.inr (.inr hi.symm))) ?_
              rintro i (hi | hi | hi)
              · exact .inl (.inl hi)
              · exact .inl (.inr (.inl hi))
              · injection hi with hi
                subst hi
                rcases HA.out with h | h
                · exact HTT.out.2.1 i (.inr (.inr h.symm))
                · have h' : i = w2.heap.size + 1 := h.trans (World.size_alloc _ _)
                  exact .inr (by omega)
            exact ((t0.set (p := ⟨pw, 2, none⟩) (.inl (.inl rfl)) _).set (p := ⟨gn, (n - 2).toNat, none⟩) (.inl (.inr (.inl rfl))) _).below (below_drew (Below.refl _ _))

theorem wis_any (A : Option Addr) (c : Nat) (nodes : List Br) (w0 : World) (pw gn cn NB : Nat) (hC : k74.C w0 A nodes.length nodes) (hc : nodes.length ≤ c) (hcn : nodes.length ≤ cn)
    (hn : nodes.length < 4294967296) (hdn : Dn nodes) (hb : w0.heap.size ≤ pw ∧ w0.heap.size ≤ gn ∧ pw < NB ∧ gn < NB ∧ pw ≠ gn) : ∀ k, WisC A c nodes w0 pw gn cn NB k := by
  intro k
  induction k with
  | zero => intro n s W fv _ _ h0 h1; exact absurd h1 (by omega)
  | succ k ih => exact wis_step A c nodes w0 pw gn cn NB k hC hc hcn hn hdn hb ih
end Go.Proofs.YtgpnpfjbkaehlaaDoor.Wk
namespace Go.Proofs.YtgpnpfjbkaehlaaDoor.Wk
open Go.RowKit Go.Shelf Go.Lib Go.Maps Go.Proofs.YtgpnpfjbkaehlaaDoorW.PrintWords Go.Proofs.YtgpnpfjbkaehlaaDoorW.PrintLast Go.Proofs.YtgpnpfjbkaehlaaDoorW.PrintMore Go.Proofs.YtgpnpfjbkaehlaaDoor.Nt Go.Proofs.YtgpnpfjbkaehlaaDoor.Fm
set_option linter.unusedVariables false
set_option linter.unusedSimpArgs false

theorem infoInt : (Tryd.prog.info? 3).map (fun i => (i.zero, i.size, i.bytes)) = some (some (.int .i64 0), 1, 8) := by kernel_rfl

/-- A new slice of numbers. -/
theorem make_ints (w : World) (n : Nat) (hn : n < 4294967296) : ∃ arr : Array Value, (Instr.makeSlice 65 (.int .i64 n) (.int .i64 n)).run Tryd.prog w = .ok (.slice (some ⟨w.heap.size, 0, none⟩) n n) (w.alloc (.cells arr 3)) ∧ arr.size = n ∧ ∀ i : Nat, i < n → arr[i]? = some (.int .i64 0) := by
  obtain ⟨i, hi, hz, hs, hb⟩ := info_parts infoInt
  have h := run_make (P := Tryd.prog) w 65 3 i (.int .i64 0) Tryd.underlying65 hi hz .i64 .i64 n n (by omega) (Int.le_refl _) (by rw [hb]; omega) (by omega)
  rw [Int.toNat_natCast, hs, Nat.mul_one] at h
  refine ⟨_, h, ?_, ?_⟩
  · exact size_madeCells _ _
  · intro j hj
    simp [madeCells, hj, Nat.mod_one, Value.cells]

set_option maxHeartbeats 2000000 in
set_option maxRecDepth 100000 in
theorem numbered_any (A : Option Addr) (c : Nat) (nodes : List Br) (root : Int) (w : World) (hC : k74.C w A nodes.length nodes) (hc : nodes.length ≤ c) (hn : nodes.length < 4294967296) (hdn : Dn nodes) (hr0 : 0 ≤ root) (hr1 : root < nodes.length + 2) :
    Calls Tryd.prog 109 #[.slice A nodes.length c, .int .i64 root] w (DgP w (dgP nodes root).2.out (dgP nodes root).1) := by
  have hlen : (dgP nodes root).2.out.length < 4294967296 := Nat.lt_of_le_of_lt (dg_len hdn hr0 hr1) hn
  obtain ⟨arr, hmk, ha1, ha2⟩ := make_ints (w.alloc (.cells #[.slice none 0 0, .int .i64 0] 30)) nodes.length hn
  rw [World.size_alloc] at hmk
  have q0 : Below w.heap.size w (((w.alloc (.cells #[.slice none 0 0, .int .i64 0] 30)).alloc (.cells arr 3)).alloc (.cells #[.slice A nodes.length c, .slice (some ⟨w.heap.size + 1, 0, none⟩) nodes.length nodes.length, .slice none 0 0] 172)) := below_alloc (below_alloc (below_alloc (Below.refl _ _) _) _) _
  have kg : ((w.alloc (.cells #[.slice none 0 0, .int .i64 0] 30)).alloc (.cells arr 3)).heap[w.heap.size + 1]? = some (.cells arr 3 (0, 0)) := by
    have := blk_new (w.alloc (.cells #[.slice none 0 0, .int .i64 0] 30)) (.cells arr 3)
    rwa [World.size_alloc] at this
  have kp : (((w.alloc (.cells #[.slice none 0 0, .int .i64 0] 30)).alloc (.cells arr 3)).alloc (.cells #[.slice A nodes.length c, .slice (some ⟨w.heap.size + 1, 0, none⟩) nodes.length nodes.length, .slice none 0 0] 172)).heap[w.heap.size + 1 + 1]? = some (.cells #[.slice A nodes.length c, .slice (some ⟨w.heap.size + 1, 0, none⟩) nodes.length nodes.length, .slice none 0 0] 172 (0, 0)) := by
    have := blk_new ((w.alloc (.cells #[.slice none 0 0, .int .i64 0] 30)).alloc (.cells arr 3)) (.cells #[.slice A nodes.length c, .slice (some ⟨w.heap.size + 1, 0, none⟩) nodes.length nodes.length, .slice none 0 0] 172)
    rwa [World.size_alloc, World.size_alloc] at this
  have hV : WI A c nodes w (w.heap.size + 1 + 1) (w.heap.size + 1) nodes.length (w.heap.size + 3) (((w.alloc (.cells #[.slice none 0 0, .int .i64 0] 30)).alloc (.cells arr 3)).alloc (.cells #[.slice A nodes.length c, .slice (some ⟨w.heap.size + 1, 0, none⟩) nodes.length nodes.length, .slice none 0 0] 172)) (.slice none 0 0) ⟨fun y => if y = 1 then some 1 else if y = 0 then some 0 else none, []⟩ := by
    refine ⟨q0, by rw [World.size_alloc, World.size_alloc, World.size_alloc]; omega, kp, ⟨arr, blk_alloc kg _, ha1, fun i hi => ?_⟩, Kd.R_nil _ _ _ _ _, ?_⟩
    · rw [ha2 i hi]
      dsimp only
      rw [if_neg (by omega), if_neg (by omega)]
      rfl
    · intro n m hn hm
      dsimp only at hm
      rw [if_neg (by omega), if_neg (by omega)] at hm
      cases hm
  have hvis := wis_any A c nodes w _ _ _ _ hC hc (Nat.le_refl _) hn hdn (by omega) (nodes.length + 2) root _ _ _ hV ⟨rfl, rfl⟩ hr0 (by omega) (by omega) hlen
  rw [show visP nodes (nodes.length + 2) root ⟨fun y => if y = 1 then some 1 else if y = 0 then some 0 else none, []⟩ = dgP nodes root from rfl] at hvis
  obtain ⟨rt, vs, hg⟩ : ∃ rt vs, dgP nodes root = (rt, vs) := ⟨_, _, rfl⟩
  rw [hg] at hvis hlen ⊢
  dsimp only at hvis hlen ⊢
  have k4 := blk_alloc (blk_alloc (blk_new w (.cells #[.slice none 0 0, .int .i64 0] 30)) (.cells arr 3)) (.cells #[.slice A nodes.length c, .slice (some ⟨w.heap.size + 1, 0, none⟩) nodes.length nodes.length, .slice none 0 0] 172)
  have HVIS := Lib.hid hvis
  have HK4 := Lib.hid k4
  clear hvis hV kp kg q0 k4 hg hC
  go_enter Tryd.func109, Tryd.ntmps109
  go_wp2_with fail
  refine HVIS.out.mono ?_
  rintro e w3 ⟨rfl, fv', hV', ht3⟩
  have k43 := ht3.blk HK4.out (by rintro (h | h | h) <;> first | omega | cases h)
  have c40 : w3.cell? ⟨w.heap.size, 0, none⟩ = some (.slice none 0 0) := (blk_cell k43 0).trans rfl
  have c41 : w3.cell? ⟨w.heap.size, 1, none⟩ = some (.int .i64 0) := (blk_cell k43 1).trans rfl
  have f40 := blk_free k43 0
  have f41 := blk_free k43 1
  have c52 : w3.cell? ⟨w.heap.size + 1 + 1, 2, none⟩ = some fv' := (blk_cell hV'.hp 2).trans rfl
  obtain ⟨A', c', rfl, hc', hC'⟩ := Kd.R_reads hV'.row
  have HV := Lib.hid hV'
  have HC' := Lib.hid hC'
  have HK := Lib.hid k43
  clear hV' hC' ht3 k43
  go_wp2_with fail
  have e2 := blk_set (blk_set HK.out 0 (.slice A' vs.out.length c')) 1 (.int .i64 rt)
  have d0 : World.cell? _ ⟨w.heap.size, 0, none⟩ = some (.slice A' vs.out.length c') := (blk_cell e2 0).trans rfl
  have d1 : World.cell? _ ⟨w.heap.size, 1, none⟩ = some (.int .i64 rt) := (blk_cell e2 1).trans rfl
  refine bodyPost_ret (v := .agg #[.slice A' vs.out.length c', .int .i64 rt]) ?_ rfl ?_
  · simp [results, Tryd.results109, go_sem, d0, d1]
  · have hz : w.heap.size ≤ w3.heap.size := HV.out.bel.size
    refine ⟨(HV.out.bel.setCell (p := ⟨_, _, _⟩) (Nat.le_refl _) _).setCell (p := ⟨_, _, _⟩) (Nat.le_refl _) _, A', c', rfl, hc', ?_⟩
    have r1 := Kd.R_far (Kd.R_far HV.out.row (p := ⟨w.heap.size, 0, none⟩) (fun k hk => ?_) (.slice A' vs.out.length c')) (p := ⟨w.heap.size, 1, none⟩) (fun k hk => ?_) (.int .i64 rt)
    · obtain ⟨A2, c2, he, _, hr⟩ := Kd.R_reads r1
      injection he with h1 h2 h3
      subst h1
      exact hr
    all_goals
      have : w.heap.size + 3 ≤ k := hk
      show k ≠ w.heap.size
      omega
end Go.Proofs.YtgpnpfjbkaehlaaDoor.Wk
namespace Go.Proofs.YtgpnpfjbkaehlaaDoor.Wk
open Go.RowKit Go.Shelf Go.Lib Go.Maps Go.Proofs.YtgpnpfjbkaehlaaDoorW.PrintWords Go.Proofs.YtgpnpfjbkaehlaaDoorW.PrintLast Go.Proofs.YtgpnpfjbkaehlaaDoorW.PrintMore Go.Proofs.YtgpnpfjbkaehlaaDoor.Nt Go.Proofs.YtgpnpfjbkaehlaaDoor.Fm
set_option linter.unusedVariables false
set_option linter.unusedSimpArgs false

def VaP (nodes : List Br) (root : Int) (w : World) (e : Ending) (w' : World) : Prop := e = .returned (.bool (dgOK nodes root)) ∧ Below w.heap.size w w'
theorem VaP.mk_ {nodes : List Br} {root : Int} {w w' : World} {r : Bool} (h : dgOK nodes root = r) (hb : Below w.heap.size w w') : VaP nodes root w (.returned (.bool r)) w' := ⟨by rw [h], hb⟩

theorem ok_bad {nodes : List Br} {root : Int} {k : Nat} {b : Br} (h : nodes[k]? = some b) (hb : okBr nodes k b = false) : dgOK nodes root = false := by
  have hk : k < nodes.length := (List.getElem?_eq_some_iff.1 h).1
  have h1 : okD nodes (k + 1) = false := by rw [okD, h]; simp [hb]
  have h2 := okD_le h1 (nodes.length - (k + 1))
  rw [show k + 1 + (nodes.length - (k + 1)) = nodes.length by omega] at h2
  rw [dgOK, h2]
  rfl

set_option maxHeartbeats 4000000 in
set_option maxRecDepth 100000 in
theorem valid_any (A : Option Addr) (c : Nat) (nodes : List Br) (root : Int) (w : World) (hC : k74.C w A nodes.length nodes) (hc : nodes.length ≤ c) (hn : nodes.length < 4294967295) :
    Calls Tryd.prog 82 #[.agg #[.slice A nodes.length c, .int .i64 root]] w (VaP nodes root w) := by
  have HC := Lib.hid hC
  clear hC
  by_cases r0 : 0 ≤ root
  · by_cases r1 : root < nodes.length + 2
    · go_enter Tryd.func82, Tryd.ntmps82
      go_wp2_with fail
      go_loopg [3] nodes.length (fun kq v3 wr => ∃ k : Nat, v3 = .int .i64 k ∧ Aside0 (k + kq = nodes.length ∧ Below w.heap.size w wr ∧ okD nodes k = true ∧ wr.heap[w.heap.size]? = some (.cells #[.slice A nodes.length c, .int .i64 root] 30 (0, 0))))
      case atStart => exact ⟨0, rfl, by omega, below_alloc (Below.refl _ _) _, rfl, blk_new _ _⟩
      case round =>
        obtain ⟨k, rfl, HA⟩ := hrel
        have k0 : wr.cell? ⟨w.heap.size, 0, none⟩ = some (.slice A nodes.length c) := (blk_cell HA.out.2.2.2 0).trans rfl
        have k1 : wr.cell? ⟨w.heap.size, 1, none⟩ = some (.int .i64 root) := (blk_cell HA.out.2.2.2 1).trans rfl
        by_cases hk : k < nodes.length
        · obtain ⟨x, hx⟩ : ∃ x, nodes[k]? = some x := ⟨_, List.getElem?_eq_getElem hk⟩
          have hbr := koineref02_branch.calls (k + 4) A c nodes root k _ wr (Kd.C_below HC.out HA.out.2.1) hc (br_is root hx (by omega))
          have HBR := Lib.hid hbr
          have HX := Lib.hid hx
          clear hbr hx
          cases hok : okBr nodes k x with
          | true =>
            rw [hok] at HBR
            go_wp2_with fail
            refine HBR.out.mono ?_
            rintro e w1 ⟨rfl, hb1⟩
            go_wp2_with fail
            go_roundg (gk - 1)
            case measure => have := HA.out.1; omega
            case rel =>
              refine ⟨k + 1, by go_num, by have := HA.out.1; omega, HA.out.2.1.trans (hb1.mono HA.out.2.1.size), ?_, blk_below HA.out.2.2.2 hb1⟩
              rw [okD, HA.out.2.2.1, HX.out]
              exact hok
          | false =>
            rw [hok] at HBR
            go_wp2_with fail
            refine HBR.out.mono ?_
            rintro e w1 ⟨rfl, hb1⟩
            go_wp2_with fail
            go_ret
            exact .mk_ (ok_bad HX.out hok) (HA.out.2.1.trans (hb1.mono HA.out.2.1.size))
        · have hkf : k = nodes.length := by have := HA.out.1; omega
          subst hkf
          have hdn := okD_dn HA.out.2.2.1
          have hnu := fun w1 (hb : Below w.heap.size w w1) => numbered_any A c nodes root w1 (Kd.C_below HC.out hb) hc (by omega) hdn r0 r1
          have HNU := Lib.hid hnu
          have hfin : dgOK nodes root = (decide (root = (dgP nodes root).1) && decide (nodes = (dgP nodes root).2.out)) := by
            rw [dgOK, HA.out.2.2.1, decide_eq_true r0, decide_eq_true (show root ≤ nodes.length + 1 by omega)]
            simp only [Bool.true_and]
            rw [Bool.decide_and]
            congr 1 <;> exact decide_eq_decide.2 ⟨fun h => h.symm, fun h => h.symm⟩
          have HFIN := Lib.hid hfin
          clear hnu hfin
          go_wp2_with fail
          go_region_with (first
            | (go_at_call 109; refine (HNU.out _ (below_drew HA.out.2.1)).mono ?_; rintro e w1 ⟨hb1, A', c', rfl, hc', hC'⟩
               have hbd := blk_below (blk_drew HA.out.2.2.2) hb1
               have j0 : w1.cell? ⟨w.heap.size, 0, none⟩ = some (.slice A nodes.length c) := (blk_cell hbd 0).trans rfl
               have j1 : w1.cell? ⟨w.heap.size, 1, none⟩ = some (.int .i64 root) := (blk_cell hbd 1).trans rfl
               have HB1 := Lib.hid ((below_drew HA.out.2.1).trans (hb1.mono (below_drew HA.out.2.1).size))
               have HC1 := Lib.hid hC'
               clear hbd hb1 hC')
            | (go_at_call 108; refine (koineref02_Same.calls _ A c nodes root A' c' _ _ _ _ (Kd.C_below HC.out HB1.out) hc HC1.out hc' (rdg_same nodes _ root _ (by omega))).mono ?_; rintro e w2 ⟨rfl, hb2⟩
               have HB2 := Lib.hid (HB1.out.trans (hb2.mono HB1.out.size))
               clear hb2))
          all_goals
            go_wp2_with fail
            go_ret
            exact .mk_ HFIN.out HB2.out
    · have hd : decide (root ≤ nodes.length + 1) = false := decide_eq_false (by omega)
      go_enter Tryd.func82, Tryd.ntmps82
      go_wp2_with fail
      go_ret
      exact .mk_ (by rw [dgOK, hd]; simp) (below_alloc (Below.refl _ _) _)
  · have hd : decide (0 ≤ root) = false := decide_eq_false r0
    go_enter Tryd.func82, Tryd.ntmps82
    go_wp2_with fail
    go_ret
    exact .mk_ (by rw [dgOK, hd]; simp) (below_alloc (Below.refl _ _) _)

set_option maxRecDepth 100000 in
/-- The reference's Check, walked whole. -/
theorem rcheck_any (A : Option Addr) (c : Nat) (nodes : List Br) (root : Int) (w : World) (hC : k74.C w A nodes.length nodes) (hc : nodes.length ≤ c) :
    Calls Tryd.prog 50 #[.agg #[.slice A nodes.length c, .int .i64 root]] w (DcP nodes root w) := by
  by_cases hl : nodes.length ≤ 4096
  · have hl' : (nodes.length : Int) ≤ 4096 := by omega
    have hv := valid_any A c nodes root _ (Kd.C_alloc hC (.cells #[.slice A nodes.length c, .int .i64 root] 30)) hc (by omega)
    have HV := Lib.hid hv
    clear hv
    cases hok : dgOK nodes root with
    | true =>
      go_enter Tryd.func50, Tryd.ntmps50
      go_wp2_with fail
      refine HV.out.mono ?_
      rintro e w1 ⟨he, hb1⟩
      rw [hok] at he
      subst he
      have hb2 : Below w.heap.size w w1 := (below_alloc (Below.refl _ _) _).trans (hb1.mono (by simp))
      go_wp2_with fail
      go_ret
      exact .mk_ (by rw [dgC, if_neg (by omega), hok]; rfl) hb2
    | false =>
      go_enter Tryd.func50, Tryd.ntmps50
      go_wp2_with fail
      refine HV.out.mono ?_
      rintro e w1 ⟨he, hb1⟩
      rw [hok] at he
      subst he
      have hb2 : Below w.heap.size w w1 := (below_alloc (Below.refl _ _) _).trans (hb1.mono (by simp))
      go_wp2_with fail
      go_ret
      exact .mk_ (by rw [dgC, if_neg (by omega), hok]; rfl) hb2
  · have hl' : (4096 : Int) < nodes.length := by omega
    go_enter Tryd.func50, Tryd.ntmps50
    go_wp2_with fail
    go_ret
    exact .mk_ (by rw [dgC, if_pos (by omega)]) (below_alloc (Below.refl _ _) _)
end Go.Proofs.YtgpnpfjbkaehlaaDoor.Wk
namespace Go.Proofs.YtgpnpfjbkaehlaaDoor.Wk
open Go.RowKit Go.Shelf Go.Lib Go.Maps Go.Proofs.YtgpnpfjbkaehlaaDoorW.PrintWords Go.Proofs.YtgpnpfjbkaehlaaDoorW.PrintLast Go.Proofs.YtgpnpfjbkaehlaaDoorW.PrintMore Go.Proofs.YtgpnpfjbkaehlaaDoor.Nt Go.Proofs.YtgpnpfjbkaehlaaDoor.Fm
set_option linter.unusedVariables false
set_option linter.unusedSimpArgs false

set_option maxRecDepth 100000 in
/-- constant, at constants. -/
theorem const_any (p : Nat) (op x y : Int) (w : World) (h : w.cell? ⟨p, 4, none⟩ = some (.int .i64 op)) (hx : 0 ≤ x ∧ x < 2) (hy : 0 ≤ y ∧ y < 2) (hop : op = 0 ∨ op = 1 ∨ op = 2) :
    Calls Tryd.prog 124 #[.pointer (some ⟨p, 0, none⟩), .int .i64 x, .int .i64 y] w fun e w' => e = .returned (.int .i64 (conP op x y)) ∧ w' = w := by
  have hx2 : x = 0 ∨ x = 1 := by omega
  have hy2 : y = 0 ∨ y = 1 := by omega
  rcases hop with rfl | rfl | rfl <;> rcases hx2 with rfl | rfl <;> rcases hy2 with rfl | rfl
  all_goals
    clear hx hy
    go_enter Tryd.func124, Tryd.ntmps124
    go_wp2_with fail
    go_ret
    exact ⟨rfl, rfl⟩
end Go.Proofs.YtgpnpfjbkaehlaaDoor.Wk
namespace Go.Proofs.YtgpnpfjbkaehlaaDoor.Wk
open Go.RowKit Go.Shelf Go.Lib Go.Maps Go.Proofs.YtgpnpfjbkaehlaaDoorW.PrintWords Go.Proofs.YtgpnpfjbkaehlaaDoorW.PrintLast Go.Proofs.YtgpnpfjbkaehlaaDoorW.PrintMore Go.Proofs.YtgpnpfjbkaehlaaDoor.Nt Go.Proofs.YtgpnpfjbkaehlaaDoor.Fm
set_option linter.unusedVariables false
set_option linter.unusedSimpArgs false

/-- The first error of two diagrams. -/
def fsP (a : List Br) (ra : Int) (b : List Br) (rb : Int) : Int := if dgC a ra = 0 then dgC b rb else dgC a ra

set_option maxHeartbeats 2000000 in
set_option maxRecDepth 100000 in
theorem first_any (A B : Option Addr) (ca cb g : Nat) (a b : List Br) (ra rb : Int) (w : World) (hA : k74.C w A a.length a) (hca : a.length ≤ ca) (hB : k74.C w B b.length b) (hcb : b.length ≤ cb)
    (hg : w.heap[g]? = some (.cells #[.slice A a.length ca, .int .i64 ra, .slice B b.length cb, .int .i64 rb] 30 (0, 0))) :
    Calls Tryd.prog 95 #[.slice (some ⟨g, 0, none⟩) 2 2] w fun e w' => e = .returned (.int .i64 (fsP a ra b rb)) ∧ Below w.heap.size w w' := by
  have HA := Lib.hid hA
  have HB := Lib.hid hB
  have HG := Lib.hid hg
  clear hA hB hg
  go_enter Tryd.func95, Tryd.ntmps95
  go_wp2_with fail
  go_loopg [3] 2 (fun kq v3 wr => ∃ k : Nat, v3 = .int .i64 k ∧ Aside0 (k + kq = 2 ∧ Below w.heap.size w wr ∧ (0 < k → dgC a ra = 0) ∧ (1 < k → dgC b rb = 0)))
  case atStart => exact ⟨0, rfl, by omega, Below.refl _ _, fun h => absurd h (by omega), fun h => absurd h (by omega)⟩
  case round =>
    obtain ⟨k, rfl, HK⟩ := hrel
    have hk := HK.out.1
    have hbg := blk_below HG.out HK.out.2.1
    have c0 : wr.cell? ⟨g, 0, none⟩ = some (.slice A a.length ca) := (blk_cell hbg 0).trans rfl
    have c1 : wr.cell? ⟨g, 1, none⟩ = some (.int .i64 ra) := (blk_cell hbg 1).trans rfl
    have c2 : wr.cell? ⟨g, 2, none⟩ = some (.slice B b.length cb) := (blk_cell hbg 2).trans rfl
    have c3 : wr.cell? ⟨g, 3, none⟩ = some (.int .i64 rb) := (blk_cell hbg 3).trans rfl
    have hca' := rcheck_any A ca a ra wr (Kd.C_below HA.out HK.out.2.1) hca
    have hcb' := rcheck_any B cb b rb wr (Kd.C_below HB.out HK.out.2.1) hcb
    have HCA := Lib.hid hca'
    have HCB := Lib.hid hcb'
    clear hca' hcb' hbg
    rcases (by omega : k = 0 ∨ k = 1 ∨ k = 2) with rfl | rfl | rfl
    · go_wp2_with fail
      refine HCA.out.mono ?_
      rintro e w1 ⟨rfl, hb1⟩
      have hb2 := HK.out.2.1.trans (hb1.mono HK.out.2.1.size)
      by_cases h0 : dgC a ra = 0
      · have h0b : (dgC a ra == 0) = true := beq_iff_eq.2 h0
        have H0 := Lib.hid h0
        clear h0
        go_wp2_with fail
        go_roundg (gk - 1)
        case measure => omega
        case rel => exact ⟨1, by go_num, by omega, hb2, fun _ => H0.out, fun h => absurd h (by omega)⟩
      · have h0b : (dgC a ra == 0) = false := beq_eq_false_iff_ne.2 h0
        have H0 := Lib.hid h0
        clear h0
        go_wp2_with fail
        go_ret
        exact ⟨by rw [fsP, if_neg H0.out]; rfl, hb2⟩
    · go_wp2_with fail
      refine HCB.out.mono ?_
      rintro e w1 ⟨rfl, hb1⟩
      have hb2 := HK.out.2.1.trans (hb1.mono HK.out.2.1.size)
      by_cases h0 : dgC b rb = 0
      · have h0b : (dgC b rb == 0) = true := beq_iff_eq.2 h0
        have H0 := Lib.hid h0
        clear h0
        go_wp2_with fail
        go_roundg (gk - 1)
        case measure => omega
        case rel => exact ⟨2, by go_num, by omega, hb2, fun _ => HK.out.2.2.1 (by omega), fun _ => H0.out⟩
      · have h0b : (dgC b rb == 0) = false := beq_eq_false_iff_ne.2 h0
        have H0 := Lib.hid h0
        clear h0
        go_wp2_with fail
        go_ret
        exact ⟨by rw [fsP, if_pos (HK.out.2.2.1 (by omega))]; rfl, hb2⟩
    · go_wp2_with fail
      go_ret
      exact ⟨by rw [fsP, if_pos (HK.out.2.2.1 (by omega)), HK.out.2.2.2 (by omega)]; rfl, HK.out.2.1⟩
end Go.Proofs.YtgpnpfjbkaehlaaDoor.Wk
namespace Go.Proofs.YtgpnpfjbkaehlaaDoor.Wk
open Go.RowKit Go.Shelf Go.Lib Go.Maps Go.Proofs.YtgpnpfjbkaehlaaDoorW.PrintWords Go.Proofs.YtgpnpfjbkaehlaaDoorW.PrintLast Go.Proofs.YtgpnpfjbkaehlaaDoorW.PrintMore Go.Proofs.YtgpnpfjbkaehlaaDoor.Nt Go.Proofs.YtgpnpfjbkaehlaaDoor.Fm
attribute [local go_sem] max2_int min2_int max_two min_two max_three min_three max_four min_four
set_option linter.unusedVariables false
set_option linter.unusedSimpArgs false

/-- What an application goes on, and what it has made. -/
structure AI (Aa Ab : Option Addr) (ca cb : Nat) (a b : List Br) (ra rb op : Int) (w0 : World) (pw NB : Nat) (W : World) (fv sv : Value) (s : AS) : Prop where
  bel : Below w0.heap.size w0 W
  nb : NB ≤ W.heap.size
  hp : W.heap[pw]? = some (.cells #[.slice Aa a.length ca, .int .i64 ra, .slice Ab b.length cb, .int .i64 rb, .int .i64 op, fv, sv] 163 (0, 0))
  rowN : k74.R 74 W 0 (fun k => NB ≤ k) fv s.nodes
  rowS : k74.R 156 W 0 (fun k => NB ≤ k) sv s.seen

/-- The blocks that an application owns. -/
def AO (pw : Nat) (fv sv : Value) : Nat → Prop := fun k => k = pw ∨ some k = fv.ownBlock ∨ some k = sv.ownBlock

theorem AI.fv_lt {Aa Ab : Option Addr} {ca cb : Nat} {a b : List Br} {ra rb op : Int} {w0 : World} {pw NB : Nat} {W : World} {fv sv : Value} {s : AS} (h : AI Aa Ab ca cb a b ra rb op w0 pw NB W fv sv s) : ∀ k, some k = fv.ownBlock → NB ≤ k ∧ k < W.heap.size := by
  intro k hk
  refine ⟨h.rowN.1 k hk.symm, ?_⟩
  obtain ⟨cells, hc⟩ := own_typed (Kd.R_own h.rowN).choose_spec k hk.symm
  exact blk_lt hc
theorem AI.sv_lt {Aa Ab : Option Addr} {ca cb : Nat} {a b : List Br} {ra rb op : Int} {w0 : World} {pw NB : Nat} {W : World} {fv sv : Value} {s : AS} (h : AI Aa Ab ca cb a b ra rb op w0 pw NB W fv sv s) : ∀ k, some k = sv.ownBlock → NB ≤ k ∧ k < W.heap.size := by
  intro k hk
  refine ⟨h.rowS.1 k hk.symm, ?_⟩
  obtain ⟨cells, hc⟩ := own_typed (Kd.R_own h.rowS).choose_spec k hk.symm
  exact blk_lt hc
/-- The two rows lie apart. -/
theorem AI.apart {Aa Ab : Option Addr} {ca cb : Nat} {a b : List Br} {ra rb op : Int} {w0 : World} {pw NB : Nat} {W : World} {fv sv : Value} {s : AS} (h : AI Aa Ab ca cb a b ra rb op w0 pw NB W fv sv s) : ∀ k, some k = fv.ownBlock → some k ≠ sv.ownBlock := by
  intro k hk hs
  obtain ⟨c1, h1⟩ := own_typed (Kd.R_own h.rowN).choose_spec k hk.symm
  obtain ⟨c2, h2⟩ := own_typed (Kd.R_own h.rowS).choose_spec k hs.symm
  rw [h1] at h2
  injection h2 with h2
  injection h2 with _ h2 _
  exact absurd h2 (by decide)

theorem AI.below {Aa Ab : Option Addr} {ca cb : Nat} {a b : List Br} {ra rb op : Int} {w0 : World} {pw NB : Nat} {W W' : World} {fv sv : Value} {s : AS} (h : AI Aa Ab ca cb a b ra rb op w0 pw NB W fv sv s) (hb : Below W.heap.size W W') : AI Aa Ab ca cb a b ra rb op w0 pw NB W' fv sv s :=
  ⟨h.bel.trans (hb.mono h.bel.size), Nat.le_trans h.nb hb.size, blk_below h.hp hb, Kd.R_below h.rowN hb, Kd.R_below h.rowS hb⟩

def ApC (Aa Ab : Option Addr) (ca cb : Nat) (a b : List Br) (ra rb op : Int) (w0 : World) (pw NB k : Nat) : Prop :=
  ∀ (x y : Int) (s : AS) (W : World) (fv sv : Value), AI Aa Ab ca cb a b ra rb op w0 pw NB W fv sv s → AInv a b op s → 0 ≤ x → x < a.length + 2 → 0 ≤ y → y < b.length + 2 → (x + y).toNat < k →
    (apP a b op k x y s).2.nodes.length < 4294967295 → (apP a b op k x y s).2.seen.length < 4294967295 →
    Calls Tryd.prog 115 #[.pointer (some ⟨pw, 0, none⟩), .int .i64 x, .int .i64 y] W fun e w' =>
      e = .returned (.int .i64 (apP a b op k x y s).1) ∧ ∃ fv' sv', AI Aa Ab ca cb a b ra rb op w0 pw NB w' fv' sv' (apP a b op k x y s).2 ∧ TurnO (AO pw fv sv) W (AO pw fv' sv') w'

theorem find_drop {l : List Br} {j : Nat} {e : Br} (h : l[j]? = some e) (x y : Int) : findS (l.drop j) x y = if e.f0 = x ∧ e.f1 = y then some e.f2 else findS (l.drop (j + 1)) x y := by
  obtain ⟨h1, h2⟩ := List.getElem?_eq_some_iff.1 h
  rw [List.drop_eq_getElem_cons h1, h2, findS]

theorem ap_new {a b : List Br} {op : Int} {k : Nat} {x y r1 r2 r : Int} {s s1 s2 : AS} {l : List Br} (h : ¬ (x < 2 ∧ y < 2)) (hm : findS s.seen x y = none)
    (e1 : apP a b op k (sdP a x (min (lvl a x) (lvl b y))).1 (sdP b y (min (lvl a x) (lvl b y))).1 s = (r1, s1)) (e2 : apP a b op k (sdP a x (min (lvl a x) (lvl b y))).2 (sdP b y (min (lvl a x) (lvl b y))).2 s1 = (r2, s2)) (e3 : unqP s2.nodes ⟨min (lvl a x) (lvl b y), r1, r2⟩ = (l, r)) :
    apP a b op (k + 1) x y s = (r, ⟨l, s2.seen ++ [⟨x, y, r⟩]⟩) := by
  rw [apP, if_neg h, hm]
  dsimp only
  rw [e1]
  dsimp only
  rw [e2]
  dsimp only
  rw [e3]

/-- Where a step leads. -/
theorem ap_parts {a b : List Br} (ha : BD a) (hb : BD b) (a6 : Vs 6 a) (b6 : Vs 6 b) {x y : Int} {k : Nat} (x0 : 0 ≤ x) (x1 : x < a.length + 2) (y0 : 0 ≤ y) (y1 : y < b.length + 2) (hk : (x + y).toNat < k + 1) (hc : ¬ (x < 2 ∧ y < 2)) {v : Int} (hv : min (lvl a x) (lvl b y) = v) {p q p' q' : Int} (e1 : sdP a x v = (p, q)) (e2 : sdP b y v = (p', q')) :
    (0 ≤ v ∧ v < 6) ∧ (0 ≤ p ∧ p < a.length + 2) ∧ (0 ≤ q ∧ q < a.length + 2) ∧ (0 ≤ p' ∧ p' < b.length + 2) ∧ (0 ≤ q' ∧ q' < b.length + 2) ∧ (p + p').toNat < k ∧ (q + q').toNat < k := by
  have hla := ha.lvl0 x0 x1
  have hlb := hb.lvl0 y0 y1
  have hv6 : v < 6 := by
    by_cases hx2 : x < 2
    · have := lvl_six b6 (n := y) (by omega) y1
      omega
    · have := lvl_six a6 (n := x) (by omega) x1
      omega
  obtain ⟨⟨z1, z2, z3, z4⟩, ⟨t1, t2, t3, t4⟩, z5, z6⟩ := sd_ok ha x0 x1 (v := v) (by omega) (by omega)
  obtain ⟨⟨u1, u2, u3, u4⟩, ⟨w1, w2, w3, w4⟩, u5, u6⟩ := sd_ok hb y0 y1 (v := v) (by omega) (by omega)
  rw [e1] at z1 z2 z3 z4 t1 t2 t3 t4 z5
  rw [e2] at u1 u2 u3 u4 w1 w2 w3 w4 u5
  have hdec : lvl a x = v ∨ lvl b y = v := by omega
  dsimp only at *
  refine ⟨⟨by omega, hv6⟩, ⟨z1, z2⟩, ⟨t1, t2⟩, ⟨u1, u2⟩, ⟨w1, w2⟩, ?_, ?_⟩
  · rcases hdec with h | h
    · have := z5 h; omega
    · have := u5 h; omega
  · rcases hdec with h | h
    · have := z5 h; omega
    · have := u5 h; omega

theorem infoT3 : (Tryd.prog.info? 156).map (fun i => (i.zero, i.size, i.bytes)) = some (some (.agg #[.int .i64 0, .int .i64 0, .int .i64 0]), 3, 24) := by kernel_rfl

/-- A row of branches, told as a contract of the print's wants it. -/
theorem row_tight {e : TypeId} {W : World} {B N : Nat} {v : Value} {xs : List Br} (h : k74.R e W 0 (fun k => N ≤ k) v xs) (hB : B ≤ N) : k74.R e W B (fun k => some k = v.ownBlock ∧ N ≤ k) v xs :=
  Kd.R_raise (fun w ok x cs h => by rw [k74_openM h]; exact k74_mkM _ _ _ _) (Kd.R_tight2 rfl h) (fun k hk => Nat.le_trans hB (h.1 k hk))

set_option maxHeartbeats 8000000 in
set_option maxRecDepth 100000 in
/-- Behind the constants. -/
theorem at_new (Aa Ab : Option Addr) (ca cb : Nat) (a b : List Br) (ra rb op : Int) (w0 : World) (pw NB k : Nat) (hCa : k74.C w0 Aa a.length a) (hca : a.length ≤ ca) (hCb : k74.C w0 Ab b.length b) (hcb : b.length ≤ cb)
    (hna : a.length < 4294967296) (hnb : b.length < 4294967296) (hBa : BD a) (hBb : BD b) (h6a : Vs 6 a) (h6b : Vs 6 b) (hop : op = 0 ∨ op = 1 ∨ op = 2) (hb : w0.heap.size ≤ pw ∧ pw < NB)
    (ih : ApC Aa Ab ca cb a b ra rb op w0 pw NB k) (x y : Int) (s : AS) (W : World) (fv sv : Value) (hA : AI Aa Ab ca cb a b ra rb op w0 pw NB W fv sv s) (hI : AInv a b op s) (hx0 : 0 ≤ x) (hx1 : x < a.length + 2) (hy0 : 0 ≤ y) (hy1 : y < b.length + 2) (hk : (x + y).toNat < k + 1)
    (hl1 : (apP a b op (k + 1) x y s).2.nodes.length < 4294967295) (hl2 : (apP a b op (k + 1) x y s).2.seen.length < 4294967295) (hxy : ¬ (x < 2 ∧ y < 2)) :
    Calls Tryd.prog 115 #[.pointer (some ⟨pw, 0, none⟩), .int .i64 x, .int .i64 y] W fun e w' =>
      e = .returned (.int .i64 (apP a b op (k + 1) x y s).1) ∧ ∃ fv' sv', AI Aa Ab ca cb a b ra rb op w0 pw NB w' fv' sv' (apP a b op (k + 1) x y s).2 ∧ TurnO (AO pw fv sv) W (AO pw fv' sv') w' := by
  have hls := (ap_le a b op (k + 1) x y s).2
  obtain ⟨As, cs, rfl, hcs, hCs⟩ := Kd.R_reads hA.rowS
  have HA := Lib.hid hA
  have HI := Lib.hid hI
  have HCa := Lib.hid hCa
  have HCb := Lib.hid hCb
  have HCs := Lib.hid hCs
  have HIH := Lib.hid ih
  have hsl : s.seen.length < 4294967295 := by omega
  have HL1 := Lib.hid hl1
  have HL2 := Lib.hid hl2
  have HB := Lib.hid hb
  have HBa := Lib.hid hBa
  have HBb := Lib.hid hBb
  have HOP := Lib.hid hop
  have H6a := Lib.hid h6a
  have H6b := Lib.hid h6b
  have HXY := Lib.hid hxy
  have c6 : W.cell? ⟨pw, 6, none⟩ = some (.slice As s.seen.length cs) := (blk_cell hA.hp 6).trans rfl
  clear hA hI hCa hCb ih hl1 hl2 hls hb hBa hBb hop h6a h6b hCs
  have hcase : (x < 2 ∧ ¬ y < 2) ∨ ¬ x < 2 := by
    by_cases h : x < 2
    · exact .inl ⟨h, fun h' => hxy ⟨h, h'⟩⟩
    · exact .inr h
  clear hxy
  rcases hcase with ⟨g1, g2⟩ | g1
  all_goals
    go_enter Tryd.func115, Tryd.ntmps115
    go_wp2_with fail
    go_loopg [7] s.seen.length (fun kq v7 wr => ∃ j : Nat, v7 = .int .i64 j ∧ Aside0 (j + kq = s.seen.length ∧ wr = W ∧ findS s.seen x y = findS (s.seen.drop j) x y))
    case atStart => exact ⟨0, rfl, by omega, rfl, rfl⟩
    case round =>
      obtain ⟨j, rfl, HK⟩ := hrel
      obtain ⟨hj, rfl, hfd⟩ := HK.out
      have HFD := Lib.hid hfd
      clear HK hfd
      by_cases hjl : j < s.seen.length
      · obtain ⟨e, he⟩ : ∃ e, s.seen[j]? = some e := ⟨_, List.getElem?_eq_getElem hjl⟩
        obtain ⟨ad, rfl, _, e0, e1, e2⟩ := at_br HCs.out he
        have HE := Lib.hid he
        have hj0 : (0 : Int) ≤ (j : Int) := Int.natCast_nonneg _
        have hj1 : (j : Int) < (s.seen.length : Int) := by omega
        clear he
        by_cases q0 : e.f0 = x
        · by_cases q1 : e.f1 = y
          · have q0b : (e.f0 == x) = true := beq_iff_eq.2 q0
            have q1b : (e.f1 == y) = true := beq_iff_eq.2 q1
            have hfin : findS s.seen x y = some e.f2 := by rw [HFD.out, find_drop HE.out, if_pos ⟨q0, q1⟩]
            have HFIN := Lib.hid hfin
            clear hfin
            go_wp2_with fail
            go_ret
            rw [apP, if_neg HXY.out, HFIN.out]
            exact ⟨rfl, fv, _, HA.out, TurnO.refl _ _⟩
          · have q0b : (e.f0 == x) = true := beq_iff_eq.2 q0
            have q1b : (e.f1 == y) = false := beq_eq_false_iff_ne.2 q1
            have hnx : findS s.seen x y = findS (s.seen.drop (j + 1)) x y := by rw [HFD.out, find_drop HE.out, if_neg (fun h => q1 h.2)]
            have HNX := Lib.hid hnx
            clear hnx
            go_wp2_with fail
            go_roundg (gk - 1)
            case measure => omega
            case rel => exact ⟨j + 1, by go_num, by omega, rfl, HNX.out⟩
        · have q0b : (e.f0 == x) = false := beq_eq_false_iff_ne.2 q0
          have hnx : findS s.seen x y = findS (s.seen.drop (j + 1)) x y := by rw [HFD.out, find_drop HE.out, if_neg (fun h => q0 h.1)]
          have HNX := Lib.hid hnx
          clear hnx
          go_wp2_with fail
          go_roundg (gk - 1)
          case measure => omega
          case rel => exact ⟨j + 1, by go_num, by omega, rfl, HNX.out⟩
      · have hfin : findS s.seen x y = none := by rw [HFD.out, List.drop_eq_nil_of_le (by omega), findS]
        have HFIN := Lib.hid hfin
        clear hfin
        have d0 : wr.cell? ⟨pw, 0, none⟩ = some (.slice Aa a.length ca) := (blk_cell HA.out.hp 0).trans rfl
        have d1 : wr.cell? ⟨pw, 1, none⟩ = some (.int .i64 ra) := (blk_cell HA.out.hp 1).trans rfl
        have d2 : wr.cell? ⟨pw, 2, none⟩ = some (.slice Ab b.length cb) := (blk_cell HA.out.hp 2).trans rfl
        have d3 : wr.cell? ⟨pw, 3, none⟩ = some (.int .i64 rb) := (blk_cell HA.out.hp 3).trans rfl
        have hva := fun w1 (hb : Below wr.heap.size wr w1) => koineref02_level.calls Aa ca a ra x (lvl a x) w1 (Kd.C_below HCa.out (HA.out.bel.trans (hb.mono HA.out.bel.size))) hca (rlvl_is ra hx0 hx1 hna)
        have hvb := fun w1 (hb : Below wr.heap.size wr w1) => koineref02_level.calls Ab cb b rb y (lvl b y) w1 (Kd.C_below HCb.out (HA.out.bel.trans (hb.mono HA.out.bel.size))) hcb (rlvl_is rb hy0 hy1 hnb)
        have HVA := Lib.hid hva
        have HVB := Lib.hid hvb
        have hpl := blk_lt HA.out.hp
        clear hva hvb
        go_wp2_with fail
        go_cut [8] (fun v8 wc => v8 = .int .i64 (min (lvl a x) (lvl b y)) ∧ Aside0 (Below wr.heap.size wr wc))
        case first =>
          have HS : Hid (∀ w1, Below wr.heap.size wr w1 → w1.cell? ⟨pw, 0, none⟩ = some (.slice Aa a.length ca) ∧ w1.cell? ⟨pw, 1, none⟩ = some (.int .i64 ra) ∧ w1.cell? ⟨pw, 2, none⟩ = some (.slice Ab b.length cb) ∧ w1.cell? ⟨pw, 3, none⟩ = some (.int .i64 rb)) := Lib.hid (fun w1 hb => ⟨((bcell hb).1 pw 0 hpl).trans d0, ((bcell hb).1 pw 1 hpl).trans d1, ((bcell hb).1 pw 2 hpl).trans d2, ((bcell hb).1 pw 3 hpl).trans d3⟩)
          have HBL := Lib.hid (below_drew (Below.refl wr.heap.size wr))
          go_region_held3 (fun w' => w'.cell? ⟨pw, 0, none⟩ = some (.slice Aa a.length ca) ∧ w'.cell? ⟨pw, 1, none⟩ = some (.int .i64 ra) ∧ w'.cell? ⟨pw, 2, none⟩ = some (.slice Ab b.length cb) ∧ w'.cell? ⟨pw, 3, none⟩ = some (.int .i64 rb))
            (first | go_keep | exact HS.out _ HBL.out)
            (first
              | (go_at_call 121; with_reducible refine (HVA.out _ HBL.out).mono ?_; rintro e w1 ⟨rfl, hb1⟩; replace HBL := Lib.hid (HBL.out.trans (hb1.mono HBL.out.size)); clear hb1)
              | (go_at_call 121; with_reducible refine (HVB.out _ HBL.out).mono ?_; rintro e w1 ⟨rfl, hb1⟩; replace HBL := Lib.hid (HBL.out.trans (hb1.mono HBL.out.size)); clear hb1))
          go_wp2
          all_goals
            go_meet
            case rel => exact ⟨val_i (by omega), Aside0.mk HBL.out⟩
        case rest =>
          obtain ⟨rfl, HBW⟩ := hcut
          clear HVA HVB c6 d0 d1 d2 d3
          obtain ⟨v, hv⟩ : ∃ v, min (lvl a x) (lvl b y) = v := ⟨_, rfl⟩
          obtain ⟨x0, x1, ex⟩ : ∃ p q, sdP a x v = (p, q) := ⟨_, _, rfl⟩
          obtain ⟨y0, y1, ey⟩ : ∃ p q, sdP b y v = (p, q) := ⟨_, _, rfl⟩
          obtain ⟨⟨v0, v6⟩, ⟨m1, m2⟩, ⟨m3, m4⟩, ⟨m5, m6⟩, ⟨m7, m8⟩, m9, m10⟩ := ap_parts HBa.out HBb.out H6a.out H6b.out hx0 hx1 hy0 hy1 hk HXY.out hv ex ey
          obtain ⟨r1, s1, e1⟩ : ∃ r s1, apP a b op k x0 y0 s = (r, s1) := ⟨_, _, rfl⟩
          obtain ⟨r2, s2, e2⟩ : ∃ r s2, apP a b op k x1 y1 s1 = (r, s2) := ⟨_, _, rfl⟩
          obtain ⟨l, r, e3⟩ : ∃ l r, unqP s2.nodes ⟨v, r1, r2⟩ = (l, r) := ⟨_, _, rfl⟩
          have hnew : apP a b op (k + 1) x y s = (r, ⟨l, s2.seen ++ [⟨x, y, r⟩]⟩) := ap_new (s1 := s1) (r1 := r1) (s2 := s2) (r2 := r2) HXY.out HFIN.out (by rw [hv, ex, ey]; exact e1) (by rw [hv, ex, ey]; exact e2) (by rw [hv]; exact e3)
          have k1 := ap_le a b op k x0 y0 s
          have k2 := ap_le a b op k x1 y1 s1
          have k3 := unq_le s2.nodes ⟨v, r1, r2⟩
          have l1 := HL1.out
          have l2 := HL2.out
          have i1 := (ap_ok HBa.out HBb.out H6a.out H6b.out HOP.out k x0 y0 s HI.out m1 m2 m5 m6 m9).1
          rw [hnew] at l1 l2
          rw [e1] at k1 i1
          rw [e2] at k2
          rw [e3] at k3
          dsimp only at k1 k2 k3 l1 l2 i1
          rw [List.length_append, List.length_singleton] at l2
          have hA1 := HA.out.below HBW.out
          have hsa := fun w1 (hb : Below w0.heap.size w0 w1) => koineref02_sides.calls Aa ca a ra x v x0 x1 w1 (Kd.C_below HCa.out hb) hca ((sd_is ra hx0 hx1 hna (by omega)).trans (by rw [ex]))
          have hsb := fun w1 (hb : Below w0.heap.size w0 w1) => koineref02_sides.calls Ab cb b rb y v y0 y1 w1 (Kd.C_below HCb.out hb) hcb ((sd_is rb hy0 hy1 hnb (by omega)).trans (by rw [ey]))
          have HSA := Lib.hid hsa
          have HSB := Lib.hid hsb
          have c0 : wc.cell? ⟨pw, 0, none⟩ = some (.slice Aa a.length ca) := (blk_cell hA1.hp 0).trans rfl
          have c1 : wc.cell? ⟨pw, 1, none⟩ = some (.int .i64 ra) := (blk_cell hA1.hp 1).trans rfl
          have HA1 := Lib.hid hA1
          have HE1 := Lib.hid e1
          have HE2 := Lib.hid e2
          have HE3 := Lib.hid e3
          have HV := Lib.hid hv
          have HI1 := Lib.hid i1
          have HT1 := Lib.hid (show Below wr.heap.size wr wc from HBW.out)
          have HNEW := Lib.hid hnew
          clear hA1 hsa hsb ex ey e1 e2 e3 hnew hv i1 HBW
          rw [HV.out]
          go_wp2_with fail
          refine (HSA.out _ HA1.out.bel).mono ?_
          rintro e w1 ⟨rfl, hb1⟩
          have hA2 := HA1.out.below hb1
          have c2 : w1.cell? ⟨pw, 2, none⟩ = some (.slice Ab b.length cb) := (blk_cell hA2.hp 2).trans rfl
          have c3 : w1.cell? ⟨pw, 3, none⟩ = some (.int .i64 rb) := (blk_cell hA2.hp 3).trans rfl
          have HA2 := Lib.hid hA2
          replace HT1 := Lib.hid (HT1.out.trans (hb1.mono HT1.out.size))
          clear hA2 hb1 c0 c1
          go_wp2_with fail
          refine (HSB.out _ HA2.out.bel).mono ?_
          rintro e w2 ⟨rfl, hb2⟩
          have hA3 := HA2.out.below hb2
          have HA3 := Lib.hid hA3
          replace HT1 := Lib.hid (HT1.out.trans (hb2.mono HT1.out.size))
          clear hA3 hb2 c2 c3
          go_wp2_with fail
          refine (HIH.out x0 y0 s w2 fv _ HA3.out HI.out m1 m2 m5 m6 m9 (by rw [HE1.out]; show s1.nodes.length < _; omega) (by rw [HE1.out]; show s1.seen.length < _; omega)).mono ?_
          rintro e w3 ⟨he, fv1, sv1, hA4, ht1⟩
          rw [HE1.out] at hA4 he
          obtain rfl : e = .returned (.int .i64 r1) := he
          have HA4 := Lib.hid hA4
          have HT2 := Lib.hid (below_turnO HT1.out ht1)
          clear hA4 ht1
          go_wp2_with fail
          refine (HIH.out x1 y1 s1 w3 fv1 sv1 HA4.out HI1.out m3 m4 m7 m8 m10 (by rw [HE2.out]; show s2.nodes.length < _; omega) (by rw [HE2.out]; show s2.seen.length < _; omega)).mono ?_
          rintro e w4 ⟨he, fv2, sv2, hA5, ht2⟩
          rw [HE2.out] at hA5 he
          obtain rfl : e = .returned (.int .i64 r2) := he
          have hbp := HB.out
          have c5 : w4.cell? ⟨pw, 5, none⟩ = some fv2 := (blk_cell hA5.hp 5).trans rfl
          have hun := koineref02_unique.calls (s2.nodes.length + 1) (fun k => some k = fv2.ownBlock ∧ NB ≤ k) fv2 s2.nodes v r1 r2 l r w0 w4 hA5.bel (row_tight hA5.rowN (by omega)) ((unq_is s2.nodes ⟨v, r1, r2⟩ (by omega)).trans (by rw [HE3.out]))
          have HUN := Lib.hid hun
          have HA5 := Lib.hid hA5
          replace HT2 := Lib.hid (HT2.out.trans ht2)
          clear hA5 ht2 hun
          go_wp2_with fail
          refine HUN.out.mono ?_
          rintro e w5 ⟨nv, rfl, hR5, hB5, hK5⟩
          obtain ⟨Av, cv, rfl⟩ := Kd.R_slice hR5
          have hfl2 := HA5.out.fv_lt
          have hsl2 := HA5.out.sv_lt
          have hap := HA5.out.apart
          have hnb := HA5.out.nb
          have hp5 := blk_kept HA5.out.hp hK5 (fun h => by have := h.2; omega)
          have hrs5 := Kd.R_kept (Kd.R_tight2 rfl HA5.out.rowS) hK5 (fun k hk h => hap k h.1 hk.1)
          have hnv : ∀ k, some k = (Value.slice Av l.length cv).ownBlock → NB ≤ k ∧ k ≠ pw := fun k hk => by
            rcases hR5.1 k hk.symm with h | h
            · exact ⟨h.2, by have := h.2; omega⟩
            · exact ⟨by omega, by omega⟩
          have hrn5 : k74.R 74 w5 0 (fun k => NB ≤ k) (.slice Av l.length cv) l := Kd.R_lower (Kd.R_reok rfl hR5 (fun k hk => (hnv k hk.symm).1)) (Nat.zero_le _)
          have htu5 : TurnO (AO pw fv2 sv2) w4 (AO pw (.slice Av l.length cv) sv2) w5 := by
            refine ⟨⟨hK5.1, fun i hi hne => hK5.2 i hi (fun h => hne (.inr (.inl h.1)))⟩, ?_, ⟨hB5.os.trans HA5.out.bel.os.symm, hB5.tape.trans HA5.out.bel.tape.symm, hB5.output.trans HA5.out.bel.output.symm, hK5.1, fun i hi => absurd hi (Nat.not_lt_zero _)⟩⟩
            rintro i (h | h | h)
            · exact .inl (.inl h)
            · rcases hR5.1 i h.symm with h | h
              · exact .inl (.inr (.inl h.1))
              · exact .inr h
            · exact .inl (.inr (.inr h))
          have hp6 := blk_set hp5 5 (.slice Av l.length cv)
          have hrs6 := Kd.R_alloc (Kd.R_far (p := ⟨pw, 5, none⟩) hrs5 (fun k hk => by show k ≠ pw; have := hk.2; omega) (.slice Av l.length cv)) (.cells #[.int .i64 x, .int .i64 y, .int .i64 r] 156)
          have z5 := blk_free hp5 5
          have e5 : w5.cell? ⟨pw, 5, none⟩ = some fv2 := (blk_cell hp5 5).trans rfl
          have e6 : (w5.setCell ⟨pw, 5, none⟩ (.slice Av l.length cv)).cell? ⟨pw, 6, none⟩ = some sv2 := (blk_cell hp6 6).trans rfl
          have HP6 := Lib.hid hp6
          have HRS6 := Lib.hid (Kd.R_mono hrs6 (fun k hk => hk.2))
          have HRN5 := Lib.hid hrn5
          have HNV := Lib.hid hnv
          have HT5 := Lib.hid (HT2.out.trans htu5)
          have HB5 := Lib.hid hB5
          have HNE := Lib.hid (show some pw ≠ sv2.ownBlock from fun h => by have := hsl2 _ h; omega)
          have HSL := Lib.hid hsl2
          have hz5 : NB ≤ w5.heap.size := Nat.le_trans hnb hK5.1
          clear hfl2 hsl2 hap hp5 hrs5 hnv hrn5 htu5 hp6 hrs6 hR5 hB5 hK5 c5
          go_wp2_with (first
            | (at_builtin; (refine list_append_R k74 rfl (.tmp 127) (.tmp 132) 161 156 _ 24 rfl Tryd.underlying161 infoT3 rfl (by decide) sv2 s2.seen ⟨x, y, r⟩ [.int .i64 x, .int .i64 y, .int .i64 r] (fun k => NB ≤ k) (fun _ => False) rfl ⟨w5.heap.size, 0, none⟩ rfl (new_cells0 _ _ _ _ (by simp)) (k74_mkM _ _ _ ⟨x, y, r⟩) (fun _ h => h.elim) (by intro k hk; simp at hk; omega) HRS6.out (by omega) (by decide) ?_); intro g cap w7 hR hg hat hlt7
               have hp7 := blk_grown (blk_alloc HP6.out _) hg HNE.out
               have e7 : w7.cell? ⟨pw, 6, none⟩ = some sv2 := (blk_cell hp7 6).trans rfl
               have z7 := blk_free hp7 6
               have HP7 := Lib.hid hp7
               have HR7 := Lib.hid hR
               have HG := Lib.hid hg
               have HAT := Lib.hid hat
               clear hp7 hR hg hat))
          go_ret
          rw [HNEW.out]
          have hbp' := HB.out
          have hw0 : w0.heap.size ≤ w5.heap.size := HB5.out.size
          have hs7 := HG.out.size
          have hs7' : w5.heap.size + 1 ≤ w7.heap.size := by
            have := hs7
            rw [World.size_alloc, World.size_setCell] at this
            exact this
          have hbel : Below w0.heap.size w0 ((w5.setCell ⟨pw, 5, none⟩ (.slice Av l.length cv)).alloc (.cells #[.int .i64 x, .int .i64 y, .int .i64 r] 156)) := below_alloc (HB5.out.setCell (p := ⟨pw, 5, none⟩) (by show w0.heap.size ≤ pw; omega) _) _
          have hb7 : Below w0.heap.size w0 w7 := pw_below_grown hbel _ hbel.size HG.out (fun q hq => by have := HSL.out q hq.symm; omega)
          have hb8 := hb7.setCell (p := ⟨pw, 6, none⟩) (by show w0.heap.size ≤ pw; omega) (.slice (some ⟨g, 0, none⟩) (s2.seen.length + 1) cap)
          have t7 : TurnO (AO pw fv (.slice As s.seen.length cs)) wr (AO pw (.slice Av l.length cv) (.slice (some ⟨g, 0, none⟩) (s2.seen.length + 1) cap)) w7 := by
            refine ((HT5.out.set (p := ⟨pw, 5, none⟩) (.inl (.inl rfl)) _).below (below_alloc (Below.refl _ _) _)).grown HG.out (fun i hi => HT5.out.2.1 i (.inr (.inr hi.symm))) ?_
            rintro i (hi | hi | hi)
            · exact .inl (.inl hi)
            · exact HT5.out.2.1 i (.inr (.inl hi))
            · injection hi with hi
              subst hi
              rcases HAT.out with h | h
              · exact HT5.out.2.1 i (.inr (.inr h.symm))
              · have h' : i = w5.heap.size + 1 := by rw [h, World.size_alloc, World.size_setCell]
                have := HT5.out.size
                exact .inr (by omega)
          refine ⟨ret_v rfl, .slice Av l.length cv, .slice (some ⟨g, 0, none⟩) (s2.seen.length + 1) cap, ⟨hb8, ?_, ?_, ?_, ?_⟩, t7.set (p := ⟨pw, 6, none⟩) (.inl (.inl rfl)) _⟩
          · rw [World.size_setCell]; omega
          · have := blk_set HP7.out 6 (.slice (some ⟨g, 0, none⟩) (s2.seen.length + 1) cap)
            simpa using this
          · refine Kd.R_far (Kd.R_grown2 (Kd.R_alloc (Kd.R_far HRN5.out (p := ⟨pw, 5, none⟩) (fun k hk => ?_) _) _) rfl HG.out (fun k hk hn => ?_)) (p := ⟨pw, 6, none⟩) (fun k hk => ?_) _
            · show k ≠ pw
              have : NB ≤ k := hk
              omega
            · obtain ⟨c1, h1⟩ := own_typed (Kd.R_own HRN5.out).choose_spec k hn.symm
              obtain ⟨c2, h2⟩ := own_typed (Kd.R_own HRS6.out).choose_spec k hk
              have h3 := blk_alloc (blk_far h1 (p := ⟨pw, 5, none⟩) (HNV.out k hn).2 (.slice Av l.length cv)) (.cells #[.int .i64 x, .int .i64 y, .int .i64 r] 156)
              rw [h3] at h2
              injection h2 with h2
              injection h2 with _ h2 _
              all_goals exact absurd h2 (by decide)
            · show k ≠ pw
              have : NB ≤ k := hk
              omega
          · refine Kd.R_far HR7.out (p := ⟨pw, 6, none⟩) (fun k hk => ?_) _
            show k ≠ pw
            have : NB ≤ k := hk
            omega

set_option maxHeartbeats 8000000 in
set_option maxRecDepth 100000 in
theorem at_step (Aa Ab : Option Addr) (ca cb : Nat) (a b : List Br) (ra rb op : Int) (w0 : World) (pw NB k : Nat) (hCa : k74.C w0 Aa a.length a) (hca : a.length ≤ ca) (hCb : k74.C w0 Ab b.length b) (hcb : b.length ≤ cb)
    (hna : a.length < 4294967296) (hnb : b.length < 4294967296) (hBa : BD a) (hBb : BD b) (h6a : Vs 6 a) (h6b : Vs 6 b) (hop : op = 0 ∨ op = 1 ∨ op = 2) (hb : w0.heap.size ≤ pw ∧ pw < NB)
    (ih : ApC Aa Ab ca cb a b ra rb op w0 pw NB k) : ApC Aa Ab ca cb a b ra rb op w0 pw NB (k + 1) := by
  intro x y s W fv sv hA hI hx0 hx1 hy0 hy1 hk hl1 hl2
  have HA := Lib.hid hA
  have HI := Lib.hid hI
  have HCa := Lib.hid hCa
  have HCb := Lib.hid hCb
  have HIH := Lib.hid ih
  have HL1 := Lib.hid hl1
  have HL2 := Lib.hid hl2
  have HB := Lib.hid hb
  have HBa := Lib.hid hBa
  have HBb := Lib.hid hBb
  have HOP := Lib.hid hop
  have H6a := Lib.hid h6a
  have H6b := Lib.hid h6b
  have c4 : W.cell? ⟨pw, 4, none⟩ = some (.int .i64 op) := (blk_cell hA.hp 4).trans rfl
  clear hA hI hCa hCb ih hl1 hl2 hb hBa hBb hop h6a h6b
  by_cases hx2 : x < 2
  · by_cases hy2 : y < 2
    · have hcon := const_any pw op x y W c4 ⟨hx0, hx2⟩ ⟨hy0, hy2⟩ HOP.out
      have HCON := Lib.hid hcon
      rw [show apP a b op (k + 1) x y s = (conP op x y, s) by rw [apP, if_pos ⟨hx2, hy2⟩]]
      clear hcon c4
      go_enter Tryd.func115, Tryd.ntmps115
      go_wp2_with fail
      refine HCON.out.mono ?_
      rintro e w1 ⟨rfl, rfl⟩
      go_wp2_with fail
      go_ret
      exact ⟨rfl, fv, sv, HA.out, TurnO.refl _ _⟩
    · exact at_new Aa Ab ca cb a b ra rb op w0 pw NB k HCa.out hca HCb.out hcb hna hnb HBa.out HBb.out H6a.out H6b.out HOP.out HB.out HIH.out x y s W fv sv HA.out HI.out hx0 hx1 hy0 hy1 hk HL1.out HL2.out (fun h => hy2 h.2)
  · exact at_new Aa Ab ca cb a b ra rb op w0 pw NB k HCa.out hca HCb.out hcb hna hnb HBa.out HBb.out H6a.out H6b.out HOP.out HB.out HIH.out x y s W fv sv HA.out HI.out hx0 hx1 hy0 hy1 hk HL1.out HL2.out (fun h => hx2 h.1)

theorem at_any (Aa Ab : Option Addr) (ca cb : Nat) (a b : List Br) (ra rb op : Int) (w0 : World) (pw NB : Nat) (hCa : k74.C w0 Aa a.length a) (hca : a.length ≤ ca) (hCb : k74.C w0 Ab b.length b) (hcb : b.length ≤ cb)
    (hna : a.length < 4294967296) (hnb : b.length < 4294967296) (hBa : BD a) (hBb : BD b) (h6a : Vs 6 a) (h6b : Vs 6 b) (hop : op = 0 ∨ op = 1 ∨ op = 2) (hb : w0.heap.size ≤ pw ∧ pw < NB) : ∀ k, ApC Aa Ab ca cb a b ra rb op w0 pw NB k := by
  intro k
  induction k with
  | zero => intro x y s W fv sv _ _ _ _ _ _ h; omega
  | succ k ih => exact at_step Aa Ab ca cb a b ra rb op w0 pw NB k hCa hca hCb hcb hna hnb hBa hBb h6a h6b hop hb ih
end Go.Proofs.YtgpnpfjbkaehlaaDoor.Wk
namespace Go.Proofs.YtgpnpfjbkaehlaaDoor.Wk
open Go.RowKit Go.Shelf Go.Lib Go.Maps Go.Proofs.YtgpnpfjbkaehlaaDoorW.PrintWords Go.Proofs.YtgpnpfjbkaehlaaDoorW.PrintLast Go.Proofs.YtgpnpfjbkaehlaaDoorW.PrintMore Go.Proofs.YtgpnpfjbkaehlaaDoor.Nt Go.Proofs.YtgpnpfjbkaehlaaDoor.Fm
set_option linter.unusedVariables false
set_option linter.unusedSimpArgs false

/-- A diagram over six conditions that was made: valid, and of the set. -/
def DgS (sem : (Int → Bool) → Bool) (w : World) (v : Value) (w' : World) : Prop :=
  Below w.heap.size w w' ∧ ∃ A c out r, v = .agg #[.slice A out.length c, .int .i64 r] ∧ out.length ≤ c ∧ k74.C w' A out.length out ∧ Vd out r ∧ Vs 6 out ∧ ∀ c, evd out r c = sem c

/-- A store into the call's result leaves a row of branches as it is. -/
theorem C_res {w : World} {A : Option Addr} {out : List Br} {g n c : Nat} {B : Option Addr} {r : Int} {t : TypeId} (hC : k74.C w A out.length out) (hg : w.heap[g]? = some (.cells #[.slice B n c, .int .i64 r] t (0, 0))) (i : Nat) (u : Value) :
    k74.C (w.setCell ⟨g, i, none⟩ u) A out.length out := by
  refine ⟨hC.1, hC.2.1, fun h0 => ?_⟩
  obtain ⟨ad, rfl, hrow⟩ := hC.2.2 h0
  have hne : ad.block ≠ g := by
    intro he
    obtain ⟨cs, h1, h2, h3⟩ := hrow 0 _ (List.getElem?_eq_getElem h0)
    have hcs := k74_open h2
    have h4 := h3 2 _ (by rw [hcs]; rfl)
    unfold World.cell? at h4
    have hb : (ad.add (0 * k74.sz + 2)).block = g := by unfold Addr.add; split <;> exact he
    have ho : 2 ≤ (ad.add (0 * k74.sz + 2)).off := by unfold Addr.add; rw [if_neg (by omega)]; show 2 ≤ ad.off + _; omega
    rw [hb, hg] at h4
    dsimp only at h4
    split at h4
    · cases h4
    · rw [Array.getElem?_eq_none (by simpa using ho)] at h4
      cases h4
  refine ⟨ad, rfl, fun j p hp => ?_⟩
  obtain ⟨cs, h1, h2, h3⟩ := hrow j p hp
  refine ⟨cs, h1, ?_, fun q v hq => ?_⟩
  · rw [k74_open h2]; exact k74_mk _ _
  · have hb : (ad.add (j * k74.sz + q)).block ≠ g := by unfold Addr.add; split <;> exact hne
    have h5 := h3 q v hq
    unfold World.cell? at h5 ⊢
    rw [Below.heap_setCell w ⟨g, i, none⟩ u _ hb]
    exact h5

set_option maxHeartbeats 1000000 in
set_option maxRecDepth 100000 in
theorem rlimited_any (A : Option Addr) (c n : Nat) (root : Int) (w : World) (hl : n ≤ 4096) :
    Calls Tryd.prog 96 #[.agg #[.slice A n c, .int .i64 root]] w fun e w' => e = .returned (.tuple #[.agg #[.slice A n c, .int .i64 root], .int .i64 0]) ∧ Below w.heap.size w w' := by
  have hl' : (n : Int) ≤ 4096 := by omega
  go_enter Tryd.func96, Tryd.ntmps96
  go_wp2_with fail
  refine bodyPost_ret (v := .tuple #[.agg #[.slice A n c, .int .i64 root], .int .i64 0]) (by simp [results, Tryd.results96, go_sem]) rfl ⟨rfl, ?_⟩
  repeat (first | exact Below.refl _ _ | apply below_alloc | (refine Below.setCell ?_ (by simp) _))

set_option maxHeartbeats 4000000 in
set_option maxRecDepth 100000 in
theorem combine_any (Aa Ab : Option Addr) (ca cb : Nat) (a b : List Br) (ra rb op : Int) (w : World) (hCa : k74.C w Aa a.length a) (hca : a.length ≤ ca) (hCb : k74.C w Ab b.length b) (hcb : b.length ≤ cb)
    (hva : Vd a ra) (hvb : Vd b rb) (h6a : Vs 6 a) (h6b : Vs 6 b) (hop : op = 0 ∨ op = 1 ∨ op = 2) :
    Calls Tryd.prog 97 #[.agg #[.slice Aa a.length ca, .int .i64 ra], .agg #[.slice Ab b.length cb, .int .i64 rb], .int .i64 op] w fun e w' => ∃ v, e = .returned v ∧ DgS (fun c => opB op (evd a ra c) (evd b rb c)) w v w' := by
  have hla := hva.few h6a
  have hlb := hvb.few h6b
  obtain ⟨r, s, hap⟩ : ∃ r s, apP a b op (a.length + b.length + 5) ra rb ⟨[], []⟩ = (r, s) := ⟨_, _, rfl⟩
  have hr1 := hva.r1
  have hr2 := hvb.r1
  have hr3 := hva.r0
  have hr4 := hvb.r0
  obtain ⟨q1, q2, q3, q4, q5, q6, q7, q8, q9⟩ := ap_vd hva hvb h6a h6b hop (by omega) hap
  have HCa := Lib.hid hCa
  have HCb := Lib.hid hCb
  have HQ := Lib.hid (And.intro q1 (And.intro q6 (And.intro q7 (And.intro q8 q9))))
  have HVA := Lib.hid hva
  have HVB := Lib.hid hvb
  have H6a := Lib.hid h6a
  have H6b := Lib.hid h6b
  have HOP := Lib.hid hop
  have HAP := Lib.hid hap
  clear hCa hCb q1 q6 q7 q8 q9 hva hvb h6a h6b hop hap
  have HDN := Lib.hid HQ.out.1.dn
  go_enter Tryd.func97, Tryd.ntmps97
  go_wp2_with fail
  have hat := fun W hAI => at_any Aa Ab ca cb a b ra rb op w (w.heap.size + 1 + 1 + 1) (w.heap.size + 4) HCa.out hca HCb.out hcb (by omega) (by omega) HVA.out.bd HVB.out.bd H6a.out H6b.out HOP.out (by omega) (a.length + b.length + 5) ra rb ⟨[], []⟩ W (.slice none 0 0) (.slice none 0 0) hAI (AInv.nil a b op) hr3 hr1 hr4 hr2 (by omega) (by rw [HAP.out]; show s.nodes.length < _; omega) (by rw [HAP.out]; show s.seen.length < _; omega)
  rw [HAP.out] at hat
  refine (hat _ ⟨below_alloc (below_alloc (below_alloc (below_alloc (Below.refl _ _) _) _) _) _, by simp, ?_, Kd.R_nil _ _ _ _ _, Kd.R_nil _ _ _ _ _⟩).mono ?_
  · have := blk_new (((w.alloc (.cells #[.slice Aa a.length ca, .int .i64 ra] 30)).alloc (.cells #[.slice Ab b.length cb, .int .i64 rb] 30)).alloc (.cells #[.slice none 0 0, .int .i64 0] 30)) (.cells #[.slice Aa a.length ca, .int .i64 ra, .slice Ab b.length cb, .int .i64 rb, .int .i64 op, .slice none 0 0, .slice none 0 0] 163)
    simpa using this
  rintro e w1 ⟨rfl, fv, sv, hA, ht⟩
  clear hat
  obtain ⟨Av, cv, rfl, hcv, hCv⟩ := Kd.R_reads hA.rowN
  have hpl : w.heap.size + 1 + 1 < w1.heap.size := by have := hA.nb; omega
  have c3 : w1.cell? ⟨w.heap.size + 1 + 1 + 1, 5, none⟩ = some (.slice Av s.nodes.length cv) := (blk_cell hA.hp 5).trans rfl
  have hb6 := ht.blk (g := w.heap.size + 1 + 1) (o := .cells #[.slice none 0 0, .int .i64 0] 30 (0, 0)) (blk_alloc (by have := blk_new ((w.alloc (.cells #[.slice Aa a.length ca, .int .i64 ra] 30)).alloc (.cells #[.slice Ab b.length cb, .int .i64 rb] 30)) (.cells #[.slice none 0 0, .int .i64 0] 30); simpa using this) _) (by rintro (h | h | h); omega; cases h; cases h)
  have hnu := numbered_any Av cv s.nodes r w1 hCv hcv (by omega) HDN.out q4 q5
  have HNU := Lib.hid hnu
  have HA := Lib.hid hA
  have HB6 := Lib.hid hb6
  clear hA ht hCv hnu hb6
  go_wp2_with fail
  refine HNU.out.mono ?_
  rintro e w2 ⟨hb2, A', c', rfl, hc', hC'⟩
  have hb6' := blk_below HB6.out hb2
  have e0 : w2.cell? ⟨w.heap.size + 1 + 1, 0, none⟩ = some (.slice none 0 0) := (blk_cell hb6' 0).trans rfl
  have e1 : w2.cell? ⟨w.heap.size + 1 + 1, 1, none⟩ = some (.int .i64 0) := (blk_cell hb6' 1).trans rfl
  have f0 := blk_free hb6' 0
  have f1 := blk_free hb6' 1
  have HB2 := Lib.hid hb2
  have HC' := Lib.hid hC'
  have HK := Lib.hid hb6'
  clear hb2 hC' hb6'
  go_wp2_with fail
  have g2 := blk_set (blk_set HK.out 0 (.slice A' (dgP s.nodes r).2.out.length c')) 1 (.int .i64 (dgP s.nodes r).1)
  have d0 : World.cell? _ ⟨w.heap.size + 1 + 1, 0, none⟩ = some (.slice A' (dgP s.nodes r).2.out.length c') := (blk_cell g2 0).trans rfl
  have d1 : World.cell? _ ⟨w.heap.size + 1 + 1, 1, none⟩ = some (.int .i64 (dgP s.nodes r).1) := (blk_cell g2 1).trans rfl
  refine bodyPost_ret (v := .agg #[.slice A' (dgP s.nodes r).2.out.length c', .int .i64 (dgP s.nodes r).1]) ?_ rfl ?_
  · simp [results, Tryd.results97, go_sem, d0, d1]
  · refine ⟨_, rfl, ((HA.out.bel.trans (HB2.out.mono HA.out.bel.size)).setCell (p := ⟨_, _, _⟩) (by show w.heap.size ≤ w.heap.size + 1 + 1; omega) _).setCell (p := ⟨_, _, _⟩) (by show w.heap.size ≤ w.heap.size + 1 + 1; omega) _, A', c', _, _, rfl, hc', ?_, HQ.out.2.1, HQ.out.2.2.2.1, HQ.out.2.2.2.2⟩
    exact C_res (C_res HC'.out HK.out 0 _) (blk_set HK.out 0 _) 1 _
end Go.Proofs.YtgpnpfjbkaehlaaDoor.Wk
namespace Go.Proofs.YtgpnpfjbkaehlaaDoor.Wk
open Go.RowKit Go.Shelf Go.Lib Go.Maps Go.Proofs.YtgpnpfjbkaehlaaDoorW.PrintWords Go.Proofs.YtgpnpfjbkaehlaaDoorW.PrintLast Go.Proofs.YtgpnpfjbkaehlaaDoorW.PrintMore Go.Proofs.YtgpnpfjbkaehlaaDoor.Nt Go.Proofs.YtgpnpfjbkaehlaaDoor.Fm
set_option linter.unusedVariables false
set_option linter.unusedSimpArgs false

/-- The same, with no error. -/
def DgT (sem : (Int → Bool) → Bool) (w : World) (e : Ending) (w' : World) : Prop := ∃ v, e = .returned (.tuple #[v, .int .i64 0]) ∧ DgS sem w v w'

theorem vd_C0 {a : List Br} {ra : Int} (h : Vd a ra) (h6 : Vs 6 a) : dgC a ra = 0 := vd_C.2 ⟨h, by have := h.few h6; omega⟩

set_option maxHeartbeats 4000000 in
set_option maxRecDepth 100000 in
theorem operation_any (Aa Ab : Option Addr) (ca cb : Nat) (a b : List Br) (ra rb op : Int) (w : World) (hCa : k74.C w Aa a.length a) (hca : a.length ≤ ca) (hCb : k74.C w Ab b.length b) (hcb : b.length ≤ cb)
    (hva : Vd a ra) (hvb : Vd b rb) (h6a : Vs 6 a) (h6b : Vs 6 b) (hop : op = 0 ∨ op = 1 ∨ op = 2) :
    Calls Tryd.prog 67 #[.agg #[.slice Aa a.length ca, .int .i64 ra], .agg #[.slice Ab b.length cb, .int .i64 rb], .int .i64 op] w (DgT (fun c => opB op (evd a ra c) (evd b rb c)) w) := by
  have hfs : fsP a ra b rb = 0 := by rw [fsP, vd_C0 hva h6a, vd_C0 hvb h6b]; rfl
  have HFS := Lib.hid hfs
  have HCa := Lib.hid hCa
  have HCb := Lib.hid hCb
  have HCO := Lib.hid (fun w1 (hb : Below w.heap.size w w1) => combine_any Aa Ab ca cb a b ra rb op w1 (Kd.C_below hCa hb) hca (Kd.C_below hCb hb) hcb hva hvb h6a h6b hop)
  clear hfs hCa hCb hva hvb h6a h6b hop
  go_enter Tryd.func67, Tryd.ntmps67
  go_wp2_with fail
  have hfi := fun W g hb hg => first_any Aa Ab ca cb g a b ra rb W (Kd.C_below HCa.out hb) hca (Kd.C_below HCb.out hb) hcb hg
  rw [HFS.out] at hfi
  refine (hfi _ _ (below_alloc (below_alloc (below_alloc (below_alloc (Below.refl _ _) _) _) _) _) ?_).mono ?_
  · have := blk_new (((w.alloc (.cells #[.slice Aa a.length ca, .int .i64 ra] 30)).alloc (.cells #[.slice Ab b.length cb, .int .i64 rb] 30)).alloc (.cells #[.slice none 0 0, .int .i64 0] 30)) (.cells #[.slice Aa a.length ca, .int .i64 ra, .slice Ab b.length cb, .int .i64 rb] 30)
    simpa using this
  rintro e w1 ⟨rfl, hb1⟩
  clear hfi
  have hb1' := (below_alloc (below_alloc (below_alloc (below_alloc (Below.refl w.heap.size w) (.cells #[.slice Aa a.length ca, .int .i64 ra] 30)) (.cells #[.slice Ab b.length cb, .int .i64 rb] 30)) (.cells #[.slice none 0 0, .int .i64 0] 30)) (.cells #[.slice Aa a.length ca, .int .i64 ra, .slice Ab b.length cb, .int .i64 rb] 30)).trans (hb1.mono (by simp; omega))
  have k3 := blk_below (blk_alloc (blk_alloc (blk_alloc (blk_new w (.cells #[.slice Aa a.length ca, .int .i64 ra] 30)) _) _) _) hb1
  have k4 := blk_below (g := w.heap.size + 1) (o := .cells #[.slice Ab b.length cb, .int .i64 rb] 30 (0, 0)) (blk_alloc (blk_alloc (by have := blk_new (w.alloc (.cells #[.slice Aa a.length ca, .int .i64 ra] 30)) (.cells #[.slice Ab b.length cb, .int .i64 rb] 30); simpa using this) _) _) hb1
  have k6 := blk_below (g := w.heap.size + 1 + 1) (o := .cells #[.slice none 0 0, .int .i64 0] 30 (0, 0)) (blk_alloc (by have := blk_new ((w.alloc (.cells #[.slice Aa a.length ca, .int .i64 ra] 30)).alloc (.cells #[.slice Ab b.length cb, .int .i64 rb] 30)) (.cells #[.slice none 0 0, .int .i64 0] 30); simpa using this) _) hb1
  have c30 : w1.cell? ⟨w.heap.size, 0, none⟩ = some (.slice Aa a.length ca) := (blk_cell k3 0).trans rfl
  have c31 : w1.cell? ⟨w.heap.size, 1, none⟩ = some (.int .i64 ra) := (blk_cell k3 1).trans rfl
  have c40 : w1.cell? ⟨w.heap.size + 1, 0, none⟩ = some (.slice Ab b.length cb) := (blk_cell k4 0).trans rfl
  have c41 : w1.cell? ⟨w.heap.size + 1, 1, none⟩ = some (.int .i64 rb) := (blk_cell k4 1).trans rfl
  have K6 := Lib.hid k6
  have HB1 := Lib.hid hb1'
  clear hb1 hb1' k3 k4 k6
  go_wp2_with fail
  refine (HCO.out _ HB1.out).mono ?_
  rintro e w2 ⟨v, rfl, hb2, A', c', out, r, rfl, hc', hC', hvd, hv6, hsem⟩
  have hl := hvd.few hv6
  have hli := rlimited_any A' c' out.length r w2 (by omega)
  have HLI := Lib.hid hli
  have k6 := blk_below K6.out hb2
  have K62 := Lib.hid k6
  have HB2 := Lib.hid (HB1.out.trans (hb2.mono HB1.out.size))
  have HP := Lib.hid (And.intro hc' (And.intro hC' (And.intro hvd (And.intro hv6 hsem))))
  clear hli k6 hb2 hC' hvd hv6 hsem hc' c30 c31 c40 c41
  go_wp2_with fail
  refine HLI.out.mono ?_
  rintro e w3 ⟨rfl, hb3⟩
  have k6 := blk_below K62.out hb3
  have e0 : w3.cell? ⟨w.heap.size + 1 + 1, 0, none⟩ = some (.slice none 0 0) := (blk_cell k6 0).trans rfl
  have e1 : w3.cell? ⟨w.heap.size + 1 + 1, 1, none⟩ = some (.int .i64 0) := (blk_cell k6 1).trans rfl
  have f0 := blk_free k6 0
  have f1 := blk_free k6 1
  have K63 := Lib.hid k6
  have HB3 := Lib.hid (HB2.out.trans (hb3.mono HB2.out.size))
  have HC3 := Lib.hid (Kd.C_below HP.out.2.1 hb3)
  clear hb3 k6
  go_wp2_with fail
  have g2 := blk_set (blk_set K63.out 0 (.slice A' out.length c')) 1 (.int .i64 r)
  have d0 : World.cell? _ ⟨w.heap.size + 1 + 1, 0, none⟩ = some (.slice A' out.length c') := (blk_cell g2 0).trans rfl
  have d1 : World.cell? _ ⟨w.heap.size + 1 + 1, 1, none⟩ = some (.int .i64 r) := (blk_cell g2 1).trans rfl
  refine bodyPost_ret (v := .tuple #[.agg #[.slice A' out.length c', .int .i64 r], .int .i64 0]) ?_ rfl ?_
  · simp [results, Tryd.results67, go_sem, d0, d1]
  · refine ⟨_, rfl, (HB3.out.setCell (p := ⟨_, _, _⟩) (by show w.heap.size ≤ w.heap.size + 1 + 1; omega) _).setCell (p := ⟨_, _, _⟩) (by show w.heap.size ≤ w.heap.size + 1 + 1; omega) _, A', c', _, _, rfl, HP.out.1, ?_, HP.out.2.2⟩
    exact C_res (C_res HC3.out K63.out 0 _) (blk_set K63.out 0 _) 1 _

set_option maxHeartbeats 2000000 in
set_option maxRecDepth 100000 in
theorem xor_any (Aa Ab : Option Addr) (ca cb : Nat) (a b : List Br) (ra rb : Int) (w : World) (hCa : k74.C w Aa a.length a) (hca : a.length ≤ ca) (hCb : k74.C w Ab b.length b) (hcb : b.length ≤ cb)
    (hva : Vd a ra) (hvb : Vd b rb) (h6a : Vs 6 a) (h6b : Vs 6 b) :
    Calls Tryd.prog 37 #[.agg #[.slice Aa a.length ca, .int .i64 ra], .agg #[.slice Ab b.length cb, .int .i64 rb]] w (DgT (fun c => evd a ra c != evd b rb c) w) := by
  have HO := Lib.hid (fun w1 (hb : Below w.heap.size w w1) => operation_any Aa Ab ca cb a b ra rb 2 w1 (Kd.C_below hCa hb) hca (Kd.C_below hCb hb) hcb hva hvb h6a h6b (.inr (.inr rfl)))
  clear hCa hCb hva hvb h6a h6b
  go_enter Tryd.func37, Tryd.ntmps37
  go_wp2_with fail
  refine (HO.out _ (below_alloc (below_alloc (below_alloc (Below.refl _ _) _) _) _)).mono ?_
  rintro e w1 ⟨v, rfl, hb1, A', c', out, r, rfl, hc', hC', hvd, hv6, hsem⟩
  have hb1' := (below_alloc (below_alloc (below_alloc (Below.refl w.heap.size w) (.cells #[.slice Aa a.length ca, .int .i64 ra] 30)) (.cells #[.slice Ab b.length cb, .int .i64 rb] 30)) (.cells #[.slice none 0 0, .int .i64 0] 30)).trans (hb1.mono (by simp; omega))
  have k6 := blk_below (g := w.heap.size + 1 + 1) (o := .cells #[.slice none 0 0, .int .i64 0] 30 (0, 0)) (by have := blk_new ((w.alloc (.cells #[.slice Aa a.length ca, .int .i64 ra] 30)).alloc (.cells #[.slice Ab b.length cb, .int .i64 rb] 30)) (.cells #[.slice none 0 0, .int .i64 0] 30); simpa using this) hb1
  have e0 : w1.cell? ⟨w.heap.size + 1 + 1, 0, none⟩ = some (.slice none 0 0) := (blk_cell k6 0).trans rfl
  have e1 : w1.cell? ⟨w.heap.size + 1 + 1, 1, none⟩ = some (.int .i64 0) := (blk_cell k6 1).trans rfl
  have f0 := blk_free k6 0
  have f1 := blk_free k6 1
  have K6 := Lib.hid k6
  have HB1 := Lib.hid hb1'
  have HC := Lib.hid hC'
  have HP := Lib.hid (And.intro hvd (And.intro hv6 hsem))
  clear hb1 hb1' k6 hC' hvd hv6 hsem
  go_wp2_with fail
  have g2 := blk_set (blk_set K6.out 0 (.slice A' out.length c')) 1 (.int .i64 r)
  have d0 : World.cell? _ ⟨w.heap.size + 1 + 1, 0, none⟩ = some (.slice A' out.length c') := (blk_cell g2 0).trans rfl
  have d1 : World.cell? _ ⟨w.heap.size + 1 + 1, 1, none⟩ = some (.int .i64 r) := (blk_cell g2 1).trans rfl
  refine bodyPost_ret (v := .tuple #[.agg #[.slice A' out.length c', .int .i64 r], .int .i64 0]) ?_ rfl ?_
  · simp [results, Tryd.results37, go_sem, d0, d1]
  · refine ⟨_, rfl, (HB1.out.setCell (p := ⟨_, _, _⟩) (by show w.heap.size ≤ w.heap.size + 1 + 1; omega) _).setCell (p := ⟨_, _, _⟩) (by show w.heap.size ≤ w.heap.size + 1 + 1; omega) _, A', c', _, _, rfl, hc', ?_, HP.out.1, HP.out.2.1, fun c => (HP.out.2.2 c).trans rfl⟩
    exact C_res (C_res HC.out K6.out 0 _) (blk_set K6.out 0 _) 1 _
end Go.Proofs.YtgpnpfjbkaehlaaDoor.Wk
