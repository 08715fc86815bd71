/- The walks of package formula: Parse, Print, Check. -/
import Derived.WalkLawsBesides
import Derived.StringKeys
import Derived.Lib.FrozenHead2
import Derived.Shelf.Strings.BuilderK
import Derived.Test.YtgpnpfjbkaehlaaDoorKz
import Derived.Test.YtgpnpfjbkaehlaaDoorTa
namespace Go.Proofs.YtgpnpfjbkaehlaaDoor.Wk
open Go.RowKit Go.Shelf Go.Lib Go.Proofs.YtgpnpfjbkaehlaaDoorW.PrintWords Go.Proofs.YtgpnpfjbkaehlaaDoorW.PrintLast Go.Proofs.YtgpnpfjbkaehlaaDoorW.PrintMore Go.Proofs.YtgpnpfjbkaehlaaDoor.Nt Go.Proofs.YtgpnpfjbkaehlaaDoor.Fm
set_option linter.unusedVariables false
set_option linter.unusedSimpArgs false

/-- The reader at block p of W: the map of names, what is left, the nodes, whether a name was unknown. -/
def Rd (W : World) (p : Nat) (mv : Value) (rest : ByteArray) (fv : Value) (f : List FN) (u : Bool) : Prop :=
  W.heap[p]? = some (.cells #[mv, .string rest, fv, .bool u] 82 (0, 0)) ∧ k62.R 62 W 0 (fun k => k ≠ p) fv f

theorem Rd.lt {W : World} {p : Nat} {mv : Value} {rest : ByteArray} {fv : Value} {f : List FN} {u : Bool} (h : Rd W p mv rest fv f u) : p < W.heap.size := blk_lt h.1
theorem Rd.c {W : World} {p : Nat} {mv : Value} {rest : ByteArray} {fv : Value} {f : List FN} {u : Bool} (h : Rd W p mv rest fv f u) :
    W.cell? ⟨p, 0, none⟩ = some mv ∧ W.cell? ⟨p, 1, none⟩ = some (.string rest) ∧ W.cell? ⟨p, 2, none⟩ = some fv ∧ W.cell? ⟨p, 3, none⟩ = some (.bool u) ∧
    W.frozen? ⟨p, 1, none⟩ = false ∧ W.frozen? ⟨p, 2, none⟩ = false ∧ W.frozen? ⟨p, 3, none⟩ = false :=
  ⟨(blk_cell h.1 0).trans rfl, (blk_cell h.1 1).trans rfl, (blk_cell h.1 2).trans rfl, (blk_cell h.1 3).trans rfl, blk_free h.1 1, blk_free h.1 2, blk_free h.1 3⟩
theorem Rd.below {W W1 : World} {p : Nat} {mv : Value} {rest : ByteArray} {fv : Value} {f : List FN} {u : Bool} (h : Rd W p mv rest fv f u) (hb : Below W.heap.size W W1) : Rd W1 p mv rest fv f u :=
  ⟨blk_below h.1 hb, Kd.R_below h.2 hb⟩
theorem Rd.rest_ {W : World} {p : Nat} {mv : Value} {rest : ByteArray} {fv : Value} {f : List FN} {u : Bool} (h : Rd W p mv rest fv f u) (s : ByteArray) : Rd (W.setCell ⟨p, 1, none⟩ (.string s)) p mv s fv f u :=
  ⟨by have := blk_set h.1 1 (.string s); simpa using this, Kd.R_far h.2 (fun k hk => hk) _⟩
theorem Rd.unk {W : World} {p : Nat} {mv : Value} {rest : ByteArray} {fv : Value} {f : List FN} {u : Bool} (h : Rd W p mv rest fv f u) (v : Bool) : Rd (W.setCell ⟨p, 3, none⟩ (.bool v)) p mv rest fv f v :=
  ⟨by have := blk_set h.1 3 (.bool v); simpa using this, Kd.R_far h.2 (fun k hk => hk) _⟩
theorem Turn.set {p : Nat} {fv fv1 : Value} {w w1 : World} (h : Turn p fv w fv1 w1) (i : Nat) (v : Value) : Turn p fv w fv1 (w1.setCell ⟨p, i, none⟩ v) := ⟨h.1.setCell (.inl (.inl rfl)) v, h.2.1, h.2.2.setCell (Nat.zero_le _) _⟩

theorem skip_any (p : Nat) (mv : Value) (rest sym : ByteArray) (fv : Value) (f : List FN) (u : Bool) (w : World) (h : Rd w p mv rest fv f u) :
    Calls Tryd.prog 46 #[.pointer (some ⟨p, 0, none⟩), .string sym] w fun e w' =>
      e = .returned (.bool (skB rest.data.toList sym.data.toList)) ∧ Rd w' p mv ⟨(skR rest.data.toList sym.data.toList).toArray⟩ fv f u ∧ Turn p fv w fv w' := by
  have hlt := h.lt
  obtain ⟨_, c1, _, _, z1, _, _⟩ := h.c
  have H := Lib.hid h
  clear h
  go_enter Tryd.func46, Tryd.ntmps46
  go_wp2_with fail
  refine (Tryd.strings_TrimLeft_set rest ⟨#[32, 9]⟩ _ (by decide) (ascii_of_all (by decide))).mono ?_
  rintro e w1 ⟨rfl, hb⟩
  have ht : Lib.trimLeftS rest.data.toList (⟨#[32, 9]⟩ : ByteArray).data.toList = trim rest.data.toList := trim_is _
  rw [ht]
  have c1' := (hb.cell (p := ⟨p, 1, none⟩) hlt).trans c1
  have z1' := (hb.frozen (p := ⟨p, 1, none⟩) hlt).trans z1
  have HB := Lib.hid hb
  clear hb c1 z1
  go_wp2_with fail
  refine (Tryd.strings_CutPrefix _ sym _).mono ?_
  rintro e w2 ⟨rfl, rfl⟩
  go_wp2_with fail
  go_ret
  exact ⟨rfl, ((H.out.below HB.out).rest_ _).rest_ _, (((Turn.refl p fv w).below HB.out).set 1 _).set 1 _⟩

theorem Rd.fresh {W : World} {p : Nat} {mv : Value} {rest : ByteArray} {fv : Value} {f : List FN} {u : Bool} (h : Rd W p mv rest fv f u) : some p ≠ fv.ownBlock := by
  intro e
  exact h.2.1 p e.symm rfl

set_option maxHeartbeats 1000000 in
theorem put_any (p : Nat) (mv : Value) (rest : ByteArray) (fv : Value) (f : List FN) (u : Bool) (n : FN) (w : World) (h : Rd w p mv rest fv f u) (hl : f.length < 4294967296) :
    Calls Tryd.prog 100 #[.pointer (some ⟨p, 0, none⟩), .agg #[.int .i64 n.f0, .int .i64 n.f1, .int .i64 n.f2, .int .i64 n.f3]] w fun e w' =>
      e = .returned (.int .i64 (f.length : Nat)) ∧ ∃ fv', Rd w' p mv rest fv' (f ++ [n]) u ∧ Turn p fv w fv' w' := by
  have hlt := h.lt
  obtain ⟨_, _, c2, _, _, z2, _⟩ := h.c
  have H := Lib.hid h
  clear h
  go_enter Tryd.func100, Tryd.ntmps100
  go_wp2
  have HR := Lib.hid (Kd.R_drew (Kd.R_alloc (Kd.R_alloc H.out.2 (.cells #[.int .i64 n.f0, .int .i64 n.f1, .int .i64 n.f2, .int .i64 n.f3] 62)) (.cells #[.int .i64 n.f0, .int .i64 n.f1, .int .i64 n.f2, .int .i64 n.f3] 62)))
  have HB := Lib.hid (blk_alloc (blk_alloc H.out.1 (.cells #[.int .i64 n.f0, .int .i64 n.f1, .int .i64 n.f2, .int .i64 n.f3] 62)) (.cells #[.int .i64 n.f0, .int .i64 n.f1, .int .i64 n.f2, .int .i64 n.f3] 62))
  have HF := Lib.hid H.out.fresh
  go_region_law (refine step_append_R k62 rfl (.tmp 9) (.tmp 11) 26 62 _ 32 rfl Tryd.underlying26 info62 rfl (by decide) fv f n [.int .i64 n.f0, .int .i64 n.f1, .int .i64 n.f2, .int .i64 n.f3] (fun k => k ≠ p) (fun _ => False) rfl ⟨w.heap.size + 1, 0, none⟩ rfl (new_cells _ _ _ _ (by simp)) (k62_mkM _ _ _ n) (fun _ h => h.elim) (by intro k hk; simp at hk; omega) HR.out (by omega) (by decide) ?_; intro g cap w1 hR hg hat hlt1; have hB1 := blk_grown (w := World.drew _) HB.out hg HF.out; have c2' : w1.cell? ⟨p, 2, none⟩ = some fv := (blk_cell hB1 2).trans rfl; have z2' := blk_free hB1 2; have HB1 := Lib.hid hB1; have HR1 := Lib.hid hR; have HG := Lib.hid hg; have HA := Lib.hid hat; clear hB1 hR hg hat)
  all_goals
    go_wp2
    go_ret
    have hW : Below w.heap.size w (World.drew ((w.alloc (.cells #[.int .i64 n.f0, .int .i64 n.f1, .int .i64 n.f2, .int .i64 n.f3] 62)).alloc (.cells #[.int .i64 n.f0, .int .i64 n.f1, .int .i64 n.f2, .int .i64 n.f3] 62))) := below_drew (below_alloc (below_alloc (Below.refl _ _) _) _)
    refine ⟨ret_v (val_i (by omega)), .slice (some ⟨g, 0, none⟩) (f.length + 1) cap, ?_, turn_append hW HG.out HA.out⟩
    exact ⟨by have := blk_set HB1.out 2 (.slice (some ⟨g, 0, none⟩) (f.length + 1) cap); simpa using this, Kd.R_far HR1.out (fun k hk => hk) _⟩

theorem put_at (p : Nat) (mv : Value) (rest : ByteArray) (fv : Value) (f : List FN) (u : Bool) (o v a b : Int) (w : World) (h : Rd w p mv rest fv f u) (hl : f.length < 4294967296) :
    Calls Tryd.prog 100 #[.pointer (some ⟨p, 0, none⟩), .agg #[.int .i64 o, .int .i64 v, .int .i64 a, .int .i64 b]] w fun e w' =>
      e = .returned (.int .i64 (f.length : Nat)) ∧ ∃ fv', Rd w' p mv rest fv' (f ++ [⟨o, v, a, b⟩]) u ∧ Turn p fv w fv' w' :=
  put_any p mv rest fv f u ⟨o, v, a, b⟩ w h hl
end Go.Proofs.YtgpnpfjbkaehlaaDoor.Wk
namespace Go.Proofs.YtgpnpfjbkaehlaaDoor.Wk
open Go.RowKit Go.Shelf Go.Lib Go.Maps Go.Proofs.YtgpnpfjbkaehlaaDoorW.PrintWords Go.Proofs.YtgpnpfjbkaehlaaDoorW.PrintLast Go.Proofs.YtgpnpfjbkaehlaaDoorW.PrintMore Go.Proofs.YtgpnpfjbkaehlaaDoor.Nt Go.Proofs.YtgpnpfjbkaehlaaDoor.Fm
set_option linter.unusedVariables false
set_option linter.unusedSimpArgs false

/-- Block b of W is the map of names. -/
def NmMap (W : World) (b : Nat) (nm : List UInt8 → Option Nat) : Prop :=
  ∃ (n : Nat) (D : DataW Unit), W.ownsMap Tryd.prog 9 (plainElem Tryd.prog 3) b n D ∧ ∀ s : List UInt8, Maps.has D (.string s) = (nm s).isSome ∧ D.atKey (.string s) (.lit (.int .i64 0)) = .lit (.int .i64 ((nm s).getD 0 : Nat))

theorem NmMap.of_blk {W W1 : World} {b : Nat} {nm : List UInt8 → Option Nat} (h : NmMap W b nm) (hb : W1.heap[b]? = W.heap[b]?) : NmMap W1 b nm := by
  obtain ⟨n, D, ⟨es, cl, h1, h2⟩, h3⟩ := h
  exact ⟨n, D, ⟨es, cl, hb.trans h1, h2⟩, h3⟩
theorem NmMap.obj {W : World} {b : Nat} {nm : List UInt8 → Option Nat} (h : NmMap W b nm) : ∃ es cl, W.heap[b]? = some (.map es cl) := by
  obtain ⟨n, D, ⟨es, cl, h1, h2⟩, h3⟩ := h
  exact ⟨es, cl, h1⟩
theorem NmMap.turn {W W1 : World} {p b : Nat} {mv : Value} {rest : ByteArray} {fv fv1 : Value} {f : List FN} {u : Bool} {nm : List UInt8 → Option Nat} (h : NmMap W b nm) (hR : Rd W p mv rest fv f u) (ht : Turn p fv W fv1 W1) : NmMap W1 b nm := by
  obtain ⟨es, cl, hb⟩ := h.obj
  refine h.of_blk ((ht.blk hb ?_ ?_).trans hb.symm)
  · rintro rfl
    rw [hR.1] at hb
    cases hb
  · intro e
    rcases own_typed (Kd.R_own hR.2).choose_spec b e.symm with ⟨cells, hc⟩
    rw [hb] at hc
    cases hc

/-- Small enough. -/
def Sm (rest : ByteArray) (f : List FN) : Prop := rest.size < 2147483648 ∧ f.length + (trim rest.data.toList).length < 4294967296

/-- What a call of the parser's comes to. -/
def PostP (p : Nat) (mv : Value) (rest0 : ByteArray) (fv : Value) (w : World) (r : Option (Int × PS (List UInt8))) (e : Ending) (w' : World) : Prop :=
  match r with
  | none => e = .panicked [{ v := .iface 31 (.int .i64 31), recovered := false }] ∧ ∃ fv', Turn p fv w fv' w'
  | some (a, st) => ∃ rest' fv', e = .returned (.int .i64 a) ∧ trim rest'.data.toList = st.rest ∧ rest'.size ≤ rest0.size ∧ Rd w' p mv rest' fv' st.f st.u ∧ Turn p fv w fv' w'

def CallP (nm : List UInt8 → Option Nat) (g : Nat) (args : Array Value) (m : M) (k : Nat) (p mb : Nat) (H : World → Value → Prop) : Prop :=
  ∀ (rest : ByteArray) (fv : Value) (f : List FN) (u : Bool) (w : World) (r), Rd w p (.map (some mb)) rest fv f u → NmMap w mb nm → Sm rest f → H w fv →
    run lex1 nm k m 0 ⟨trim rest.data.toList, f, u⟩ = some r → Calls Tryd.prog g args w (PostP p (.map (some mb)) rest fv w r)

def FacC (nm : List UInt8 → Option Nat) (k p mb : Nat) : Prop := CallP nm 73 #[.pointer (some ⟨p, 0, none⟩)] .fac k p mb (fun _ _ => True)
def AndC (nm : List UInt8 → Option Nat) (k p mb : Nat) : Prop := CallP nm 71 #[.pointer (some ⟨p, 0, none⟩), .string ⟨#[38, 38]⟩, .int .i64 4, .func (.func 73) #[.pointer (some ⟨p, 0, none⟩)] #[]] (.ex true) k p mb (fun _ _ => True)

theorem Sm.skip {rest : ByteArray} {f : List FN} (h : Sm rest f) (sym : List UInt8) (hl : (trim (skR rest.data.toList sym)).length ≤ (trim rest.data.toList).length) : Sm ⟨(skR rest.data.toList sym).toArray⟩ f := by
  refine ⟨Nat.lt_of_le_of_lt ?_ h.1, ?_⟩
  · have := skR_le rest.data.toList sym
    rw [Array.length_toList] at this
    exact this
  · have := h.2
    show f.length + (trim (skR rest.data.toList sym)).length < _
    omega
theorem skip_sz (rest : ByteArray) (sym : List UInt8) : (⟨(skR rest.data.toList sym).toArray⟩ : ByteArray).size ≤ rest.size := by
  have := skR_le rest.data.toList sym
  rw [Array.length_toList] at this
  exact this
theorem lex_len {l l' : List UInt8} {t : Tk} (h : lex1 l = some (t, l')) : l'.length ≤ l.length := Nat.le_of_lt (lex1_low _ _ _ h)

theorem Sm.next {rest rest' : ByteArray} {f f' : List FN} {u u' : Bool} {nm : List UInt8 → Option Nat} {k : Nat} {m : M} {a r : Int} {l : List UInt8} (h : Sm rest f) (hr : run lex1 nm k m a ⟨trim rest.data.toList, f, u⟩ = some (some (r, ⟨l, f', u'⟩))) (hl : trim rest'.data.toList = l) (hs : rest'.size ≤ rest.size) : Sm rest' f' := by
  have := (run_bound (nm := nm) lex1_low k m a _ _ _ hr).1
  simp only at this
  exact ⟨Nat.lt_of_le_of_lt hs h.1, by rw [hl]; have := h.2; omega⟩

set_option maxHeartbeats 2000000 in
theorem L_and (nm : List UInt8 → Option Nat) (p mb K : Nat) (hf : ∀ k, k < K → FacC nm k p mb) : ∀ k, k ≤ K → AndC nm k p mb := by
  intro k hk rest fv f u w r hR hM hS _ hr
  cases k with
  | zero => simp [run] at hr
  | succ k =>
    unfold run at hr
    have hF := hf k (by omega)
    cases h1 : run lex1 nm k .fac 0 ⟨trim rest.data.toList, f, u⟩ with
    | none => simp [subOf, h1] at hr
    | some r1 =>
      have hc := hF rest fv f u w r1 hR hM hS trivial h1
      simp only [subOf, h1] at hr
      cases r1 with
      | none =>
        simp only [Option.some.injEq] at hr
        subst hr
        have HC := Lib.hid hc
        clear hc h1 hf hF hR hM hS
        go_enter Tryd.func71, Tryd.ntmps71
        go_wp2_with fail
        refine HC.out.mono ?_
        rintro e w1 ⟨rfl, fv1, ht⟩
        exact ⟨rfl, rfl, fv1, ht⟩
      | some q =>
        obtain ⟨a1, rest1, f1, u1⟩ := q
        have hS1 := fun rest' h h' => Sm.next (rest' := rest') hS h1 h h'
        have HC := Lib.hid hc
        have HR := Lib.hid hr
        have HS1 := Lib.hid hS1
        have HM := Lib.hid hM
        have HR0 := Lib.hid hR
        clear hc h1 hr hF hR hM hS hS1
        have HF := Lib.hid hf
        clear hf
        go_enter Tryd.func71, Tryd.ntmps71
        go_wp2_with fail
        refine HC.out.mono ?_
        rintro e w1 ⟨rest', fv1, rfl, ht, hsz, hR1, hT1⟩
        have hM1 := HM.out.turn HR0.out hT1
        change trim rest'.data.toList = rest1 at ht
        subst ht
        have hS1 := HS1.out rest' rfl hsz
        have HS := Lib.hid hS1
        have HM1 := Lib.hid hM1
        have HT1 := Lib.hid hT1
        have HR1 := Lib.hid hR1
        have HZ := Lib.hid hsz
        clear hsz hS1 hM1 hT1 hR1
        go_wp2_with fail
        go_loopg [9] k (fun kq v9 w' => ∃ (a2 : Int) (rest2 : ByteArray) (fv2 : Value) (f2 : List FN) (u2 : Bool), v9 = .int .i64 a2 ∧ Aside0 (kq ≤ k ∧ rest2.size ≤ rest.size ∧ Sm rest2 f2 ∧ run lex1 nm kq (.lo true) a2 ⟨trim rest2.data.toList, f2, u2⟩ = some r ∧ Rd w' p (.map (some mb)) rest2 fv2 f2 u2 ∧ NmMap w' mb nm ∧ Turn p fv w fv2 w'))
        case atStart => exact ⟨a1, rest', fv1, f1, u1, rfl, ⟨Nat.le_refl _, HZ.out, HS.out, HR.out, HR1.out, HM1.out, HT1.out⟩⟩
        case round =>
          clear HR HS HM1 HT1 HR1 HZ HC HR0 HM HS1
          obtain ⟨a2, rest2, fv2, f2, u2, rfl, HA⟩ := hrel
          cases gk with
          | zero => exact absurd HA.out.2.2.2.1 (by simp [run])
          | succ k1 =>
            obtain ⟨hq1, hq2, hq3, hrun, hRd, hNm, hTu⟩ := HA.out
            clear HA
            have hsc := skip_any p (.map (some mb)) rest2 ⟨#[38, 38]⟩ fv2 f2 u2 wr hRd
            change Calls _ _ _ _ (fun e w' => e = .returned (.bool (skB rest2.data.toList [38, 38])) ∧ Rd w' p (.map (some mb)) ⟨(skR rest2.data.toList [38, 38]).toArray⟩ fv2 f2 u2 ∧ Turn p fv2 wr fv2 w') at hsc
            have hzz := skip_sz rest2 [38, 38]
            unfold run at hrun
            cases hsk : skB rest2.data.toList [38, 38] with
            | false =>
              have hno := (sk_and rest2.data.toList).2 hsk
              have htr := trim_skR hsk
              rw [hsk] at hsc
              have hr2 : r = some (a2, ⟨trim rest2.data.toList, f2, u2⟩) := by
                split at hrun
                · rename_i s hs; exact absurd hs (hno s)
                · exact (Option.some.inj hrun).symm
              subst hr2
              have HSC := Lib.hid hsc
              have HTU := Lib.hid hTu
              have HTR := Lib.hid htr
              have HZZ := Lib.hid (Nat.le_trans hzz hq2)
              clear hsc hTu htr hzz hrun hno hsk hRd hNm hq1 hq2 hq3
              go_wp2_with fail
              refine HSC.out.mono ?_
              rintro e w3 ⟨rfl, hR3, hT3⟩
              have HR3 := Lib.hid hR3
              have HT3 := Lib.hid hT3
              clear hR3 hT3
              go_wp2_with fail
              go_ret
              exact ⟨_, fv2, rfl, HTR.out, HZZ.out, HR3.out, HTU.out.trans HT3.out⟩
            | true =>
              have hlex := (sk_and rest2.data.toList).1 hsk
              rw [hsk] at hsc
              simp only [hlex] at hrun
              have hS3 : Sm ⟨(skR rest2.data.toList [38, 38]).toArray⟩ f2 := hq3.skip _ (lex_len hlex)
              have hF := HF.out k1 (by omega) ⟨(skR rest2.data.toList [38, 38]).toArray⟩ fv2 f2 u2
              cases h2 : run lex1 nm k1 .fac 0 ⟨trim (skR rest2.data.toList [38, 38]), f2, u2⟩ with
              | none => rw [h2] at hrun; simp at hrun
              | some r2 =>
                have hFc := fun w3 hR hM => hF w3 r2 hR hM hS3 trivial h2
                rw [h2] at hrun
                cases r2 with
                | none =>
                  simp only [Option.some.injEq] at hrun
                  subst hrun
                  have HFC := Lib.hid hFc
                  have HSC := Lib.hid hsc
                  have HTU := Lib.hid hTu
                  have HNM := Lib.hid hNm
                  have HRD := Lib.hid hRd
                  clear hsc hTu hzz hlex hsk hRd hNm hq1 hq2 hq3 hF hFc h2 hS3
                  go_wp2_with fail
                  refine HSC.out.mono ?_
                  rintro e w3 ⟨rfl, hR3, hT3⟩
                  have HR3 := Lib.hid hR3
                  have HT3 := Lib.hid hT3
                  clear hR3 hT3
                  go_wp2_with fail
                  refine (HFC.out _ HR3.out (HNM.out.turn HRD.out HT3.out)).mono ?_
                  rintro e w4 ⟨rfl, fv4, hT4⟩
                  exact ⟨rfl, rfl, fv4, (HTU.out.trans HT3.out).trans hT4⟩
                | some q =>
                  obtain ⟨b1, l4, f4, u4⟩ := q
                  simp only at hrun
                  have hS4 := fun rest' h h' => Sm.next (rest' := rest') hS3 h2 h h'
                  have hfl : f4.length < 4294967296 ∧ (f4.length + 1) + l4.length < 4294967296 := by
                    have h4 := (run_bound (nm := nm) lex1_low k1 .fac 0 _ _ _ h2).1
                    have hb := hq3.2
                    have h5 := lex1_low _ _ _ hlex
                    simp only at h4
                    exact ⟨by omega, by omega⟩
                  have HFC := Lib.hid hFc
                  have HSC := Lib.hid hsc
                  have HTU := Lib.hid hTu
                  have HNM := Lib.hid hNm
                  have HRD := Lib.hid hRd
                  have HRU := Lib.hid hrun
                  have HFL := Lib.hid hfl
                  have HZZ := Lib.hid (Nat.le_trans hzz hq2)
                  have HQ := Lib.hid hq1
                  have HS3 := Lib.hid hS3.1
                  clear hsc hTu hzz hlex hsk hRd hNm hq1 hq2 hq3 hF hFc h2 hS3 hrun hfl hS4
                  go_wp2_with fail
                  refine HSC.out.mono ?_
                  rintro e w3 ⟨rfl, hR3, hT3⟩
                  have HR3 := Lib.hid hR3
                  have HT3 := Lib.hid hT3
                  clear hR3 hT3
                  go_wp2_with fail
                  refine (HFC.out _ HR3.out (HNM.out.turn HRD.out HT3.out)).mono ?_
                  rintro e w4 ⟨rest4, fv4, rfl, ht4, hz4, hR4, hT4⟩
                  change trim rest4.data.toList = l4 at ht4
                  subst ht4
                  have HR4 := Lib.hid hR4
                  have HT4 := Lib.hid hT4
                  have HZ4 := Lib.hid hz4
                  clear hR4 hT4 hz4
                  go_wp2_with fail
                  refine (put_at p (.map (some mb)) rest4 fv4 f4 u4 4 0 a2 b1 _ HR4.out HFL.out.1).mono ?_
                  rintro e w5 ⟨rfl, fv5, hR5, hT5⟩
                  have HR5 := Lib.hid hR5
                  have HT5 := Lib.hid hT5
                  clear hR5 hT5
                  go_wp2_with fail
                  go_roundg k1
                  case measure => omega
                  case rel =>
                    have hTn := (HT3.out.trans HT4.out).trans HT5.out
                    have hz : rest4.size ≤ rest.size := Nat.le_trans HZ4.out HZZ.out
                    have hrn : run lex1 nm k1 (.lo true) (f4.length : Int) ⟨trim rest4.data.toList, f4 ++ [(⟨4, 0, a2, b1⟩ : FN)], u4⟩ = some r := HRU.out
                    refine ⟨(f4.length : Int), rest4, fv5, f4 ++ [(⟨4, 0, a2, b1⟩ : FN)], u4, rfl, ⟨by have := HQ.out; omega, hz, ⟨Nat.lt_of_le_of_lt HZ4.out HS3.out, ?_⟩, hrn, HR5.out, HNM.out.turn HRD.out hTn, HTU.out.trans hTn⟩⟩
                    rw [List.length_append, List.length_singleton]
                    exact HFL.out.2
end Go.Proofs.YtgpnpfjbkaehlaaDoor.Wk
namespace Go.Proofs.YtgpnpfjbkaehlaaDoor.Wk
open Go.RowKit Go.Shelf Go.Lib Go.Maps Go.Proofs.YtgpnpfjbkaehlaaDoorW.PrintWords Go.Proofs.YtgpnpfjbkaehlaaDoorW.PrintLast Go.Proofs.YtgpnpfjbkaehlaaDoorW.PrintMore Go.Proofs.YtgpnpfjbkaehlaaDoor.Nt Go.Proofs.YtgpnpfjbkaehlaaDoor.Fm
set_option linter.unusedVariables false
set_option linter.unusedSimpArgs false


def BoxH (b p : Nat) (w : World) (_ : Value) : Prop := w.heap[b]? = some (.cells #[.pointer (some ⟨p, 0, none⟩)] 80 (0, 0))
def W1C (nm : List UInt8 → Option Nat) (k p mb b : Nat) : Prop := CallP nm 72 #[.pointer (some ⟨b, 0, none⟩)] (.ex true) k p mb (BoxH b p)
def OrC (nm : List UInt8 → Option Nat) (k p mb b : Nat) : Prop := CallP nm 71 #[.pointer (some ⟨p, 0, none⟩), .string ⟨#[124, 124]⟩, .int .i64 5, .func (.func 72) #[] #[.pointer (some ⟨b, 0, none⟩)]] (.ex false) k p mb (BoxH b p)
def WholeC (nm : List UInt8 → Option Nat) (k p mb : Nat) : Prop := CallP nm 45 #[.pointer (some ⟨p, 0, none⟩)] (.ex false) k p mb (fun _ _ => True)

theorem PostP.below {p : Nat} {mv : Value} {rest0 : ByteArray} {fv : Value} {w w1 : World} {r : Option (Int × PS (List UInt8))} {e : Ending} {w' : World} (hb : Below w.heap.size w w1) (h : PostP p mv rest0 fv w1 r e w') : PostP p mv rest0 fv w r e w' := by
  cases r with
  | none => obtain ⟨h1, fv', h2⟩ := h; exact ⟨h1, fv', below_turn hb h2⟩
  | some q => obtain ⟨a, st⟩ := q; obtain ⟨rest', fv', h1, h2, h3, h4, h5⟩ := h; exact ⟨rest', fv', h1, h2, h3, h4, below_turn hb h5⟩

set_option maxHeartbeats 1000000 in
theorem L_w1 (nm : List UInt8 → Option Nat) (p mb b k : Nat) (hf : AndC nm k p mb) : W1C nm k p mb b := by
  intro rest fv f u w r hR hM hS hB hr
  have hc := hf rest fv f u w r hR hM hS trivial hr
  have hmf : ∀ (fn : Fn) (first cap : Array Value) (w : World), (Instr.makeFunc fn first cap).run Tryd.prog w = .ok (.func fn first cap) w := fun _ _ _ _ => rfl
  have hb1 : w.cell? ⟨b, 0, none⟩ = some (.pointer (some ⟨p, 0, none⟩)) := (blk_cell hB 0).trans rfl
  have HC := Lib.hid hc
  clear hc hf hR hM hS hr hB
  go_enter Tryd.func72, Tryd.ntmps72
  go_wp2_with fail
  cases r with
  | none =>
    refine HC.out.mono ?_
    rintro e w1 ⟨rfl, fv1, ht⟩
    exact ⟨rfl, rfl, fv1, ht⟩
  | some q =>
    obtain ⟨a1, st1⟩ := q
    refine HC.out.mono ?_
    rintro e w1 ⟨rest', fv1, rfl, hq⟩
    have HQ := Lib.hid hq
    clear hq
    go_wp2_with fail
    go_ret
    exact ⟨rest', fv1, rfl, HQ.out⟩

set_option maxHeartbeats 2000000 in
theorem L_or (nm : List UInt8 → Option Nat) (p mb b K : Nat) (hf : ∀ k, k < K → W1C nm k p mb b) : ∀ k, k ≤ K → OrC nm k p mb b := by
  intro k hk rest fv f u w r hR hM hS hB0 hr
  have hbp : b ≠ p := by
    rintro rfl
    unfold BoxH at hB0
    rw [hR.1] at hB0
    cases hB0
  have hbo : some b ≠ fv.ownBlock := Kd.R_ne hR.2 hB0 (by decide)
  have HB0 := Lib.hid hB0
  have HBP := Lib.hid hbp
  have HBO := Lib.hid hbo
  cases k with
  | zero => simp [run] at hr
  | succ k =>
    unfold run at hr
    have hF := hf k (by omega)
    cases h1 : run lex1 nm k (.ex true) 0 ⟨trim rest.data.toList, f, u⟩ with
    | none => simp [subOf, h1] at hr
    | some r1 =>
      have hc := hF rest fv f u w r1 hR hM hS hB0 h1
      simp only [subOf, h1] at hr
      cases r1 with
      | none =>
        simp only [Option.some.injEq] at hr
        subst hr
        have HC := Lib.hid hc
        clear hc h1 hf hF hR hM hS hB0 hbp hbo
        go_enter Tryd.func71, Tryd.ntmps71
        go_wp2_with fail
        refine HC.out.mono ?_
        rintro e w1 ⟨rfl, fv1, ht⟩
        exact ⟨rfl, rfl, fv1, ht⟩
      | some q =>
        obtain ⟨a1, rest1, f1, u1⟩ := q
        have hS1 := fun rest' h h' => Sm.next (rest' := rest') hS h1 h h'
        have HC := Lib.hid hc
        have HR := Lib.hid hr
        have HS1 := Lib.hid hS1
        have HM := Lib.hid hM
        have HR0 := Lib.hid hR
        clear hc h1 hr hF hR hM hS hS1 hB0 hbp hbo
        have HF := Lib.hid hf
        clear hf
        go_enter Tryd.func71, Tryd.ntmps71
        go_wp2_with fail
        refine HC.out.mono ?_
        rintro e w1 ⟨rest', fv1, rfl, ht, hsz, hR1, hT1⟩
        have hM1 := HM.out.turn HR0.out hT1
        change trim rest'.data.toList = rest1 at ht
        subst ht
        have hS1 := HS1.out rest' rfl hsz
        have HS := Lib.hid hS1
        have HM1 := Lib.hid hM1
        have HT1 := Lib.hid hT1
        have HR1 := Lib.hid hR1
        have HZ := Lib.hid hsz
        clear hsz hS1 hM1 hT1 hR1
        go_wp2_with fail
        go_loopg [9] k (fun kq v9 w' => ∃ (a2 : Int) (rest2 : ByteArray) (fv2 : Value) (f2 : List FN) (u2 : Bool), v9 = .int .i64 a2 ∧ Aside0 (kq ≤ k ∧ rest2.size ≤ rest.size ∧ Sm rest2 f2 ∧ run lex1 nm kq (.lo false) a2 ⟨trim rest2.data.toList, f2, u2⟩ = some r ∧ Rd w' p (.map (some mb)) rest2 fv2 f2 u2 ∧ NmMap w' mb nm ∧ Turn p fv w fv2 w'))
        case atStart => exact ⟨a1, rest', fv1, f1, u1, rfl, ⟨Nat.le_refl _, HZ.out, HS.out, HR.out, HR1.out, HM1.out, HT1.out⟩⟩
        case round =>
          clear HR HS HM1 HT1 HR1 HZ HC HR0 HM HS1
          obtain ⟨a2, rest2, fv2, f2, u2, rfl, HA⟩ := hrel
          cases gk with
          | zero => exact absurd HA.out.2.2.2.1 (by simp [run])
          | succ k1 =>
            obtain ⟨hq1, hq2, hq3, hrun, hRd, hNm, hTu⟩ := HA.out
            clear HA
            have hsc := skip_any p (.map (some mb)) rest2 ⟨#[124, 124]⟩ fv2 f2 u2 wr hRd
            change Calls _ _ _ _ (fun e w' => e = .returned (.bool (skB rest2.data.toList [124, 124])) ∧ Rd w' p (.map (some mb)) ⟨(skR rest2.data.toList [124, 124]).toArray⟩ fv2 f2 u2 ∧ Turn p fv2 wr fv2 w') at hsc
            have hzz := skip_sz rest2 [124, 124]
            unfold run at hrun
            cases hsk : skB rest2.data.toList [124, 124] with
            | false =>
              have hno := (sk_or rest2.data.toList).2 hsk
              have htr := trim_skR hsk
              rw [hsk] at hsc
              have hr2 : r = some (a2, ⟨trim rest2.data.toList, f2, u2⟩) := by
                split at hrun
                · rename_i s hs; exact absurd hs (hno s)
                · exact (Option.some.inj hrun).symm
              subst hr2
              have HSC := Lib.hid hsc
              have HTU := Lib.hid hTu
              have HTR := Lib.hid htr
              have HZZ := Lib.hid (Nat.le_trans hzz hq2)
              clear hsc hTu htr hzz hrun hno hsk hRd hNm hq1 hq2 hq3
              go_wp2_with fail
              refine HSC.out.mono ?_
              rintro e w3 ⟨rfl, hR3, hT3⟩
              have HR3 := Lib.hid hR3
              have HT3 := Lib.hid hT3
              clear hR3 hT3
              go_wp2_with fail
              go_ret
              exact ⟨_, fv2, rfl, HTR.out, HZZ.out, HR3.out, HTU.out.trans HT3.out⟩
            | true =>
              have hlex := (sk_or rest2.data.toList).1 hsk
              rw [hsk] at hsc
              simp only [hlex] at hrun
              have hS3 : Sm ⟨(skR rest2.data.toList [124, 124]).toArray⟩ f2 := hq3.skip _ (lex_len hlex)
              have hF := HF.out k1 (by omega) ⟨(skR rest2.data.toList [124, 124]).toArray⟩ fv2 f2 u2
              cases h2 : run lex1 nm k1 (.ex true) 0 ⟨trim (skR rest2.data.toList [124, 124]), f2, u2⟩ with
              | none => rw [h2] at hrun; simp at hrun
              | some r2 =>
                have hFc := fun w3 hR hM hb => hF w3 r2 hR hM hS3 hb h2
                rw [h2] at hrun
                cases r2 with
                | none =>
                  simp only [Option.some.injEq] at hrun
                  subst hrun
                  have HFC := Lib.hid hFc
                  have HSC := Lib.hid hsc
                  have HTU := Lib.hid hTu
                  have HNM := Lib.hid hNm
                  have HRD := Lib.hid hRd
                  clear hsc hTu hzz hlex hsk hRd hNm hq1 hq2 hq3 hF hFc h2 hS3
                  go_wp2_with fail
                  refine HSC.out.mono ?_
                  rintro e w3 ⟨rfl, hR3, hT3⟩
                  have HR3 := Lib.hid hR3
                  have HT3 := Lib.hid hT3
                  clear hR3 hT3
                  go_wp2_with fail
                  refine (HFC.out _ HR3.out (HNM.out.turn HRD.out HT3.out) ((HTU.out.trans HT3.out).blk HB0.out HBP.out HBO.out)).mono ?_
                  rintro e w4 ⟨rfl, fv4, hT4⟩
                  exact ⟨rfl, rfl, fv4, (HTU.out.trans HT3.out).trans hT4⟩
                | some q =>
                  obtain ⟨b1, l4, f4, u4⟩ := q
                  simp only at hrun
                  have hS4 := fun rest' h h' => Sm.next (rest' := rest') hS3 h2 h h'
                  have hfl : f4.length < 4294967296 ∧ (f4.length + 1) + l4.length < 4294967296 := by
                    have h4 := (run_bound (nm := nm) lex1_low k1 (.ex true) 0 _ _ _ h2).1
                    have hb := hq3.2
                    have h5 := lex1_low _ _ _ hlex
                    simp only at h4
                    exact ⟨by omega, by omega⟩
                  have HFC := Lib.hid hFc
                  have HSC := Lib.hid hsc
                  have HTU := Lib.hid hTu
                  have HNM := Lib.hid hNm
                  have HRD := Lib.hid hRd
                  have HRU := Lib.hid hrun
                  have HFL := Lib.hid hfl
                  have HZZ := Lib.hid (Nat.le_trans hzz hq2)
                  have HQ := Lib.hid hq1
                  have HS3 := Lib.hid hS3.1
                  clear hsc hTu hzz hlex hsk hRd hNm hq1 hq2 hq3 hF hFc h2 hS3 hrun hfl hS4
                  go_wp2_with fail
                  refine HSC.out.mono ?_
                  rintro e w3 ⟨rfl, hR3, hT3⟩
                  have HR3 := Lib.hid hR3
                  have HT3 := Lib.hid hT3
                  clear hR3 hT3
                  go_wp2_with fail
                  refine (HFC.out _ HR3.out (HNM.out.turn HRD.out HT3.out) ((HTU.out.trans HT3.out).blk HB0.out HBP.out HBO.out)).mono ?_
                  rintro e w4 ⟨rest4, fv4, rfl, ht4, hz4, hR4, hT4⟩
                  change trim rest4.data.toList = l4 at ht4
                  subst ht4
                  have HR4 := Lib.hid hR4
                  have HT4 := Lib.hid hT4
                  have HZ4 := Lib.hid hz4
                  clear hR4 hT4 hz4
                  go_wp2_with fail
                  refine (put_at p (.map (some mb)) rest4 fv4 f4 u4 5 0 a2 b1 _ HR4.out HFL.out.1).mono ?_
                  rintro e w5 ⟨rfl, fv5, hR5, hT5⟩
                  have HR5 := Lib.hid hR5
                  have HT5 := Lib.hid hT5
                  clear hR5 hT5
                  go_wp2_with fail
                  go_roundg k1
                  case measure => omega
                  case rel =>
                    have hTn := (HT3.out.trans HT4.out).trans HT5.out
                    have hz : rest4.size ≤ rest.size := Nat.le_trans HZ4.out HZZ.out
                    have hrn : run lex1 nm k1 (.lo false) (f4.length : Int) ⟨trim rest4.data.toList, f4 ++ [(⟨5, 0, a2, b1⟩ : FN)], u4⟩ = some r := HRU.out
                    refine ⟨(f4.length : Int), rest4, fv5, f4 ++ [(⟨5, 0, a2, b1⟩ : FN)], u4, rfl, ⟨by have := HQ.out; omega, hz, ⟨Nat.lt_of_le_of_lt HZ4.out HS3.out, ?_⟩, hrn, HR5.out, HNM.out.turn HRD.out hTn, HTU.out.trans hTn⟩⟩
                    rw [List.length_append, List.length_singleton]
                    exact HFL.out.2

set_option maxHeartbeats 1000000 in
theorem L_whole (nm : List UInt8 → Option Nat) (p mb k : Nat) (hf : ∀ b, OrC nm k p mb b) : WholeC nm k p mb := by
  intro rest fv f u w r hR hM hS hB hr
  have hbe : Below w.heap.size w (w.alloc (.cells #[.pointer (some ⟨p, 0, none⟩)] 80)) := below_alloc (Below.refl _ _) _
  have hM1 : NmMap (w.alloc (.cells #[.pointer (some ⟨p, 0, none⟩)] 80)) mb nm := by
    obtain ⟨es, cl, hb⟩ := hM.obj
    exact hM.of_blk ((blk_below hb hbe).trans hb.symm)
  have hc := hf w.heap.size rest fv f u (w.alloc (.cells #[.pointer (some ⟨p, 0, none⟩)] 80)) r (hR.below hbe) hM1 hS (blk_new w _) hr
  have hmf : ∀ (fn : Fn) (first cap : Array Value) (w : World), (Instr.makeFunc fn first cap).run Tryd.prog w = .ok (.func fn first cap) w := fun _ _ _ _ => rfl
  have HC := Lib.hid hc
  have HBE := Lib.hid hbe
  clear hc hf hR hM hS hr hB hM1 hbe
  go_enter Tryd.func45, Tryd.ntmps45
  go_wp2_with fail
  cases r with
  | none =>
    refine HC.out.mono ?_
    rintro e w1 ⟨rfl, fv1, ht⟩
    exact ⟨rfl, rfl, fv1, below_turn HBE.out ht⟩
  | some q =>
    obtain ⟨a1, st1⟩ := q
    refine HC.out.mono ?_
    rintro e w1 ⟨rest', fv1, rfl, hq⟩
    have HQ := Lib.hid hq
    clear hq
    go_wp2_with fail
    go_ret
    exact PostP.below (r := some (a1, st1)) HBE.out ⟨rest', fv1, rfl, HQ.out⟩
end Go.Proofs.YtgpnpfjbkaehlaaDoor.Wk
namespace Go.Proofs.YtgpnpfjbkaehlaaDoor.Wk
open Go.RowKit Go.Shelf Go.Lib Go.Maps Go.Proofs.YtgpnpfjbkaehlaaDoorW.PrintWords Go.Proofs.YtgpnpfjbkaehlaaDoorW.PrintLast Go.Proofs.YtgpnpfjbkaehlaaDoorW.PrintMore Go.Proofs.YtgpnpfjbkaehlaaDoor.Nt Go.Proofs.YtgpnpfjbkaehlaaDoor.Fm
set_option linter.unusedVariables false
set_option linter.unusedSimpArgs false




set_option maxHeartbeats 2000000 in
theorem L_fac_bang (nm : List UInt8 → Option Nat) (p mb k : Nat) (hf : FacC nm k p mb) (rest : ByteArray) (fv : Value) (f : List FN) (u : Bool) (w : World) (r) (hR : Rd w p (.map (some mb)) rest fv f u) (hM : NmMap w mb nm) (hS : Sm rest f)
    (hsk : skB rest.data.toList [33] = true) (hr : run lex1 nm (k + 1) .fac 0 ⟨trim rest.data.toList, f, u⟩ = some r) : Calls Tryd.prog 73 #[.pointer (some ⟨p, 0, none⟩)] w (PostP p (.map (some mb)) rest fv w r) := by
  have hsc := skip_any p (.map (some mb)) rest ⟨#[33]⟩ fv f u w hR
  change Calls _ _ _ _ (fun e w' => e = .returned (.bool (skB rest.data.toList [33])) ∧ Rd w' p (.map (some mb)) ⟨(skR rest.data.toList [33]).toArray⟩ fv f u ∧ Turn p fv w fv w') at hsc
  have hzz := skip_sz rest [33]
  have hlex := (sk_bang rest.data.toList).1 hsk
  rw [hsk] at hsc
  unfold run at hr
  simp only [hlex] at hr
  have hS3 : Sm ⟨(skR rest.data.toList [33]).toArray⟩ f := hS.skip _ (lex_len hlex)
  have hF := hf ⟨(skR rest.data.toList [33]).toArray⟩ fv f u
  cases h2 : run lex1 nm k .fac 0 ⟨trim (skR rest.data.toList [33]), f, u⟩ with
  | none => rw [h2] at hr; simp at hr
  | some r2 =>
    have hFc := fun w3 hR hM => hF w3 r2 hR hM hS3 trivial h2
    rw [h2] at hr
    have HFC := Lib.hid hFc
    have HSC := Lib.hid hsc
    have HNM := Lib.hid hM
    have HRD := Lib.hid hR
    cases r2 with
    | none =>
      simp only [Option.some.injEq] at hr
      subst hr
      clear hsc hzz hlex hsk hR hM hF hFc h2 hS3 hS hf
      go_enter Tryd.func73, Tryd.ntmps73
      go_wp2_with fail
      refine HSC.out.mono ?_
      rintro e w3 ⟨rfl, hR3, hT3⟩
      have HR3 := Lib.hid hR3
      have HT3 := Lib.hid hT3
      clear hR3 hT3
      go_wp2_with fail
      refine (HFC.out _ HR3.out (HNM.out.turn HRD.out HT3.out)).mono ?_
      rintro e w4 ⟨rfl, fv4, hT4⟩
      exact ⟨rfl, rfl, fv4, HT3.out.trans hT4⟩
    | some q =>
      obtain ⟨b1, l4, f4, u4⟩ := q
      simp only [Option.some.injEq] at hr
      subst hr
      have hfl : f4.length < 4294967296 := by
        have h4 := (run_bound (nm := nm) lex1_low k .fac 0 _ _ _ h2).1
        have hb := hS3.2
        simp only at h4
        change f.length + (trim (skR rest.data.toList [33])).length < _ at hb
        omega
      have HFL := Lib.hid hfl
      have HZZ := Lib.hid hzz
      clear hsc hzz hlex hsk hR hM hF hFc h2 hS3 hS hf hfl
      go_enter Tryd.func73, Tryd.ntmps73
      go_wp2_with fail
      refine HSC.out.mono ?_
      rintro e w3 ⟨rfl, hR3, hT3⟩
      have HR3 := Lib.hid hR3
      have HT3 := Lib.hid hT3
      clear hR3 hT3
      go_wp2_with fail
      refine (HFC.out _ HR3.out (HNM.out.turn HRD.out HT3.out)).mono ?_
      rintro e w4 ⟨rest4, fv4, rfl, ht4, hz4, hR4, hT4⟩
      change trim rest4.data.toList = l4 at ht4
      subst ht4
      have HR4 := Lib.hid hR4
      have HT4 := Lib.hid hT4
      have HZ4 := Lib.hid hz4
      clear hR4 hT4 hz4
      go_wp2_with fail
      refine (put_at p (.map (some mb)) rest4 fv4 f4 u4 3 0 b1 0 _ HR4.out HFL.out).mono ?_
      rintro e w5 ⟨rfl, fv5, hR5, hT5⟩
      have HR5 := Lib.hid hR5
      have HT5 := Lib.hid hT5
      clear hR5 hT5
      go_wp2_with fail
      go_ret
      exact ⟨rest4, fv5, rfl, rfl, Nat.le_trans HZ4.out HZZ.out, HR5.out, (HT3.out.trans HT4.out).trans HT5.out⟩

set_option maxHeartbeats 2000000 in
theorem L_fac_lp (nm : List UInt8 → Option Nat) (p mb k : Nat) (hf : WholeC nm k p mb) (rest : ByteArray) (fv : Value) (f : List FN) (u : Bool) (w : World) (r) (hR : Rd w p (.map (some mb)) rest fv f u) (hM : NmMap w mb nm) (hS : Sm rest f)
    (hs0 : skB rest.data.toList [33] = false) (hsk : skB (skR rest.data.toList [33]) [40] = true) (hr : run lex1 nm (k + 1) .fac 0 ⟨trim rest.data.toList, f, u⟩ = some r) : Calls Tryd.prog 73 #[.pointer (some ⟨p, 0, none⟩)] w (PostP p (.map (some mb)) rest fv w r) := by
  obtain ⟨rest1, e1⟩ : ∃ rest1 : ByteArray, rest1 = ⟨(skR rest.data.toList [33]).toArray⟩ := ⟨_, rfl⟩
  have e2 : rest1.data.toList = skR rest.data.toList [33] := by rw [e1]
  have hsc := skip_any p (.map (some mb)) rest ⟨#[33]⟩ fv f u w hR
  change Calls _ _ _ _ (fun e w' => e = .returned (.bool (skB rest.data.toList [33])) ∧ Rd w' p (.map (some mb)) ⟨(skR rest.data.toList [33]).toArray⟩ fv f u ∧ Turn p fv w fv w') at hsc
  rw [← e1] at hsc
  have hsc1 := fun w1 h1 => skip_any p (.map (some mb)) rest1 ⟨#[40]⟩ fv f u w1 h1
  change ∀ w1, Rd w1 p (.map (some mb)) rest1 fv f u → Calls _ _ _ _ (fun e w' => e = .returned (.bool (skB rest1.data.toList [40])) ∧ Rd w' p (.map (some mb)) ⟨(skR rest1.data.toList [40]).toArray⟩ fv f u ∧ Turn p fv w1 fv w') at hsc1
  have hzz : rest1.size ≤ rest.size := by rw [e1]; exact skip_sz rest [33]
  have hz1 := skip_sz rest1 [40]
  have ht1 : trim rest1.data.toList = trim rest.data.toList := by rw [e2]; exact trim_skR hs0
  rw [← e2] at hsk
  have hlex := (sk_lp rest1.data.toList).1 hsk
  rw [hsk] at hsc1
  rw [hs0] at hsc
  have hS1 : Sm rest1 f := ⟨Nat.lt_of_le_of_lt hzz hS.1, by rw [ht1]; exact hS.2⟩
  rw [← ht1] at hr
  unfold run at hr
  simp only [hlex] at hr
  have hS3 : Sm ⟨(skR rest1.data.toList [40]).toArray⟩ f := hS1.skip _ (lex_len hlex)
  have hF := hf ⟨(skR rest1.data.toList [40]).toArray⟩ fv f u
  cases h2 : run lex1 nm k (.ex false) 0 ⟨trim (skR rest1.data.toList [40]), f, u⟩ with
  | none => rw [h2] at hr; simp at hr
  | some r2 =>
    have hFc := fun w3 hR hM => hF w3 r2 hR hM hS3 trivial h2
    rw [h2] at hr
    have HFC := Lib.hid hFc
    have HSC := Lib.hid hsc
    have HSC1 := Lib.hid hsc1
    have HNM := Lib.hid hM
    have HRD := Lib.hid hR
    cases r2 with
    | none =>
      simp only [Option.some.injEq] at hr
      subst hr
      clear hsc hsc1 hzz hz1 hlex hsk hs0 ht1 hR hM hF hFc h2 hS3 hS hS1 hf e1 e2
      go_enter Tryd.func73, Tryd.ntmps73
      go_wp2_with fail
      refine HSC.out.mono ?_
      rintro e w3 ⟨rfl, hR3, hT3⟩
      have HR3 := Lib.hid hR3
      have HT3 := Lib.hid hT3
      clear hR3 hT3
      go_wp2_with fail
      refine (HSC1.out _ HR3.out).mono ?_
      rintro e w4 ⟨rfl, hR4, hT4⟩
      have HR4 := Lib.hid hR4
      have HT4 := Lib.hid hT4
      clear hR4 hT4
      go_wp2_with fail
      refine (HFC.out _ HR4.out (HNM.out.turn HRD.out (HT3.out.trans HT4.out))).mono ?_
      rintro e w5 ⟨rfl, fv5, hT5⟩
      exact ⟨rfl, rfl, fv5, (HT3.out.trans HT4.out).trans hT5⟩
    | some q =>
      obtain ⟨b1, l4, f4, u4⟩ := q
      have hsc2 := fun rest4 fv4 w1 h1 => skip_any p (.map (some mb)) rest4 ⟨#[41]⟩ fv4 f4 u4 w1 h1
      change ∀ rest4 fv4 w1, Rd w1 p (.map (some mb)) rest4 fv4 f4 u4 → Calls _ _ _ _ (fun e w' => e = .returned (.bool (skB rest4.data.toList [41])) ∧ Rd w' p (.map (some mb)) ⟨(skR rest4.data.toList [41]).toArray⟩ fv4 f4 u4 ∧ Turn p fv4 w1 fv4 w') at hsc2
      have HSC2 := Lib.hid hsc2
      have HZZ := Lib.hid hzz
      have HZ1 := Lib.hid hz1
      have HR := Lib.hid hr
      clear hsc hsc1 hsc2 hzz hz1 hlex hsk hs0 ht1 hR hM hF hFc h2 hS3 hS hS1 hf e1 e2 hr
      go_enter Tryd.func73, Tryd.ntmps73
      go_wp2_with fail
      refine HSC.out.mono ?_
      rintro e w3 ⟨rfl, hR3, hT3⟩
      have HR3 := Lib.hid hR3
      have HT3 := Lib.hid hT3
      clear hR3 hT3
      go_wp2_with fail
      refine (HSC1.out _ HR3.out).mono ?_
      rintro e w4 ⟨rfl, hR4, hT4⟩
      have HR4 := Lib.hid hR4
      have HT4 := Lib.hid hT4
      clear hR4 hT4
      go_wp2_with fail
      refine (HFC.out _ HR4.out (HNM.out.turn HRD.out (HT3.out.trans HT4.out))).mono ?_
      rintro e w5 ⟨rest5, fv5, rfl, ht5, hz5, hR5, hT5⟩
      change trim rest5.data.toList = l4 at ht5
      subst ht5
      have HR5 := Lib.hid hR5
      have HT5 := Lib.hid hT5
      have HZ5 := Lib.hid hz5
      clear hR5 hT5 hz5
      have hsx := HSC2.out rest5 fv5
      have hr := HR.out
      try simp only at hr
      cases hsk : skB rest5.data.toList [41] with
      | true =>
        rw [hsk] at hsx
        have hlx := (sk_rp rest5.data.toList).1 hsk
        simp only [hlx, Option.some.injEq] at hr
        subst hr
        have HSX := Lib.hid hsx
        clear hsx hlx hsk
        go_wp2_with fail
        refine (HSX.out _ HR5.out).mono ?_
        rintro e w6 ⟨rfl, hR6, hT6⟩
        have HR6 := Lib.hid hR6
        have HT6 := Lib.hid hT6
        clear hR6 hT6
        go_wp2_with fail
        go_ret
        have hz6 := skip_sz rest5 [41]
        exact ⟨_, fv5, rfl, rfl, Nat.le_trans hz6 (Nat.le_trans HZ5.out (Nat.le_trans HZ1.out HZZ.out)), HR6.out, ((HT3.out.trans HT4.out).trans HT5.out).trans HT6.out⟩
      | false =>
        rw [hsk] at hsx
        have hlx := (sk_rp rest5.data.toList).2 hsk
        have hrn : r = none := by
          split at hr
          · rename_i s1 hs; exact absurd hs (hlx s1)
          · exact (Option.some.inj hr).symm
        subst hrn
        have HSX := Lib.hid hsx
        clear hsx hlx hsk hr
        go_wp2_with fail
        refine (HSX.out _ HR5.out).mono ?_
        rintro e w6 ⟨rfl, hR6, hT6⟩
        have HR6 := Lib.hid hR6
        have HT6 := Lib.hid hT6
        clear hR6 hT6
        go_wp2_with fail
        exact ⟨rfl, rfl, fv5, ((HT3.out.trans HT4.out).trans HT5.out).trans HT6.out⟩
end Go.Proofs.YtgpnpfjbkaehlaaDoor.Wk
namespace Go.Proofs.YtgpnpfjbkaehlaaDoor.Wk
open Go.RowKit Go.Shelf Go.Lib Go.Maps Go.Proofs.YtgpnpfjbkaehlaaDoorW.PrintWords Go.Proofs.YtgpnpfjbkaehlaaDoorW.PrintLast Go.Proofs.YtgpnpfjbkaehlaaDoorW.PrintMore Go.Proofs.YtgpnpfjbkaehlaaDoor.Nt Go.Proofs.YtgpnpfjbkaehlaaDoor.Fm
set_option linter.unusedVariables false
set_option linter.unusedSimpArgs false





theorem word_eq {nm : List UInt8 → Option Nat} {w : List UInt8} {st : PS (List UInt8)} (h1 : (w == trueW) = false) (h2 : (w == falseW) = false) :
    wordOf nm w st = (⟨st.rest, st.f, st.u || (nm w).isNone⟩ : PS (List UInt8)).put ⟨2, ((nm w).getD 0 : Nat), 0, 0⟩ := by
  unfold wordOf
  rw [if_neg (by simpa using h1), if_neg (by simpa using h2)]
theorem word_t {nm : List UInt8 → Option Nat} {w : List UInt8} {st : PS (List UInt8)} (h1 : (w == trueW) = true) : wordOf nm w st = st.put ⟨1, 0, 0, 0⟩ := by
  unfold wordOf
  rw [if_pos (by simpa using h1)]
theorem word_f {nm : List UInt8 → Option Nat} {w : List UInt8} {st : PS (List UInt8)} (h1 : (w == trueW) = false) (h2 : (w == falseW) = true) : wordOf nm w st = st.put ⟨0, 0, 0, 0⟩ := by
  unfold wordOf
  rw [if_neg (by simpa using h1), if_pos (by simpa using h2)]

/-- The skips that find nothing, in front of a word. -/
theorem no_skips {rest : ByteArray} (h1 : skB rest.data.toList [33] = false) (h2 : skB (skR rest.data.toList [33]) [40] = false) : skR (skR rest.data.toList [33]) [40] = trim rest.data.toList := by
  rw [skR_no h2, trim_skR h1]

set_option maxHeartbeats 2000000 in
set_option maxRecDepth 100000 in
theorem L_fac_no (nm : List UInt8 → Option Nat) (p mb k : Nat) (rest : ByteArray) (fv : Value) (f : List FN) (u : Bool) (w : World) (r) (hR : Rd w p (.map (some mb)) rest fv f u) (hM : NmMap w mb nm) (hS : Sm rest f)
    (hs0 : skB rest.data.toList [33] = false) (hs1 : skB (skR rest.data.toList [33]) [40] = false) (hr : run lex1 nm (k + 1) .fac 0 ⟨trim rest.data.toList, f, u⟩ = some r) : Calls Tryd.prog 73 #[.pointer (some ⟨p, 0, none⟩)] w (PostP p (.map (some mb)) rest fv w r) := by
  obtain ⟨rest1, e1⟩ : ∃ rest1 : ByteArray, rest1 = ⟨(skR rest.data.toList [33]).toArray⟩ := ⟨_, rfl⟩
  have e2 : rest1.data.toList = skR rest.data.toList [33] := by rw [e1]
  obtain ⟨rest2, e3⟩ : ∃ rest2 : ByteArray, rest2 = ⟨(skR rest1.data.toList [40]).toArray⟩ := ⟨_, rfl⟩
  have e4 : rest2.data.toList = trim rest.data.toList := by rw [e3, ← no_skips hs0 hs1, ← e2]
  have hsc := skip_any p (.map (some mb)) rest ⟨#[33]⟩ fv f u w hR
  change Calls _ _ _ _ (fun e w' => e = .returned (.bool (skB rest.data.toList [33])) ∧ Rd w' p (.map (some mb)) ⟨(skR rest.data.toList [33]).toArray⟩ fv f u ∧ Turn p fv w fv w') at hsc
  rw [← e1] at hsc
  have hsc1 := fun w1 h1 => skip_any p (.map (some mb)) rest1 ⟨#[40]⟩ fv f u w1 h1
  change ∀ w1, Rd w1 p (.map (some mb)) rest1 fv f u → Calls _ _ _ _ (fun e w' => e = .returned (.bool (skB rest1.data.toList [40])) ∧ Rd w' p (.map (some mb)) ⟨(skR rest1.data.toList [40]).toArray⟩ fv f u ∧ Turn p fv w1 fv w') at hsc1
  rw [← e3] at hsc1
  have hz2 : rest2.size ≤ rest.size := by
    have h1 := skip_sz rest [33]
    have h2 := skip_sz rest1 [40]
    rw [← e1] at h1
    rw [← e3] at h2
    omega
  have hno33 := (sk_bang rest.data.toList).2 hs0
  have hs1' := hs1
  rw [← e2] at hs1
  have hno40 := (sk_lp rest1.data.toList).2 hs1
  rw [show trim rest1.data.toList = trim rest.data.toList by rw [e2]; exact trim_skR hs0] at hno40
  rw [hs1] at hsc1
  rw [hs0] at hsc
  have hid := fun w1 => ident_any rest2 w1 (by have := hS.1; omega)
  rw [e4] at hid
  unfold run at hr
  have HSC := Lib.hid hsc
  have HSC1 := Lib.hid hsc1
  have HNM := Lib.hid hM
  have HRD := Lib.hid hR
  have HE4 := Lib.hid e4
  have HZ := Lib.hid hz2
  have HSM := Lib.hid hS
  by_cases hi : idl (trim rest.data.toList) = 0
  · have hnw := lex_noword hi
    have hrn : r = none := by
      cases hx : lex1 (trim rest.data.toList) with
      | none => simp only [hx] at hr; exact (Option.some.inj hr).symm
      | some q =>
        obtain ⟨t, s⟩ := q
        cases t with
        | bang => exact absurd hx (hno33 s)
        | lp => exact absurd hx (hno40 s)
        | word w1 => exact absurd hx (hnw w1 s)
        | _ => simp only [hx] at hr; exact (Option.some.inj hr).symm
    subst hrn
    rw [hi] at hid
    have HID := Lib.hid hid
    clear hsc hsc1 hM hR e4 hz2 hid hr hno33 hno40 hs0 hs1 hs1' hnw hi e1 e2 e3 hS
    go_enter Tryd.func73, Tryd.ntmps73
    go_wp2_with fail
    refine HSC.out.mono ?_
    rintro e w3 ⟨rfl, hR3, hT3⟩
    have HR3 := Lib.hid hR3
    have HT3 := Lib.hid hT3
    clear hR3 hT3
    go_wp2_with fail
    refine (HSC1.out _ HR3.out).mono ?_
    rintro e w4 ⟨rfl, hR4, hT4⟩
    have hlt := hR4.lt
    obtain ⟨_, c1, _, _, z1, _, _⟩ := hR4.c
    have HR4 := Lib.hid hR4
    have HT4 := Lib.hid hT4
    clear hR4 hT4
    go_wp2_with fail
    refine (HID.out _).mono ?_
    rintro e w5 ⟨rfl, hb5⟩
    have HB5 := Lib.hid hb5
    clear hb5
    go_wp2_with fail
    exact ⟨rfl, rfl, fv, (HT3.out.trans HT4.out).below HB5.out⟩
  · have hlx := lex_word hi
    simp only [hlx, Option.some.injEq] at hr
    obtain ⟨n, hn⟩ : ∃ n, n = idl (trim rest.data.toList) := ⟨_, rfl⟩
    rw [← hn] at hid hr hi
    have hnl : n ≤ rest2.size := by
      rw [hn, ← e4]
      have := idl_le rest2.data.toList
      rw [Array.length_toList] at this
      exact this
    have hn0 : 0 < n := by omega
    have HID := Lib.hid hid
    have HN := Lib.hid hn
    have HR := Lib.hid hr
    clear hsc hsc1 hM hR e4 hid hno33 hno40 hs0 hs1 hs1' hi e1 e2 e3 hn hr hlx
    have hrz : rest2.size ≤ 2147483648 := by have := hS.1; omega
    clear hS hz2
    go_enter Tryd.func73, Tryd.ntmps73
    go_wp2_with fail
    refine HSC.out.mono ?_
    rintro e w3 ⟨rfl, hR3, hT3⟩
    have HR3 := Lib.hid hR3
    have HT3 := Lib.hid hT3
    clear hR3 hT3
    go_wp2_with fail
    refine (HSC1.out _ HR3.out).mono ?_
    rintro e w4 ⟨rfl, hR4, hT4⟩
    have hlt := hR4.lt
    obtain ⟨c0, c1, c2, c3, z1, z2, z3⟩ := hR4.c
    have HR4 := Lib.hid hR4
    have HT4 := Lib.hid hT4
    clear hR4 hT4
    go_wp2_with fail
    refine (HID.out _).mono ?_
    rintro e w5 ⟨rfl, hb5⟩
    have d0 := (hb5.cell (p := ⟨p, 0, none⟩) hlt).trans c0
    have d1 := (hb5.cell (p := ⟨p, 1, none⟩) hlt).trans c1
    have d2 := (hb5.cell (p := ⟨p, 2, none⟩) hlt).trans c2
    have d3 := (hb5.cell (p := ⟨p, 3, none⟩) hlt).trans c3
    have y1 := (hb5.frozen (p := ⟨p, 1, none⟩) hlt).trans z1
    have y3 := (hb5.frozen (p := ⟨p, 3, none⟩) hlt).trans z3
    have HB5 := Lib.hid hb5
    clear hb5 c0 c1 c2 c3 z1 z2 z3
    have hM5 : NmMap w5 mb nm := HNM.out.turn HRD.out ((HT3.out.trans HT4.out).below HB5.out)
    have hbp : mb ≠ p := by
      rintro rfl
      obtain ⟨es, cl, hb⟩ := HNM.out.obj
      rw [HRD.out.1] at hb
      cases hb
    obtain ⟨nn, D, hown5, hD⟩ := hM5
    have hown6 := hown5.setCell (a := ⟨p, 1, none⟩) hbp (.string (rest2.extract n rest2.size))
    have hkey : keyOf Tryd.prog 9 (.string (rest2.extract 0 n)) = some (.string (rest2.extract 0 n).data.toList) := Go.WideMaps.keyOf_string_mk Tryd.underlying9 (by unfold maxLen; rw [ByteArray.size_extract]; omega)
    have zeroE : ∀ w, (zeroValue 3).run Tryd.prog w = .ok (.int .i64 0) w := fun w => by kernel_rfl
    have law : Keyed Tryd.prog 9 := string_keyed Tryd.underlying9
    have HD := Lib.hid hD
    have HO := Lib.hid hown6
    have HK := Lib.hid hkey
    clear hD hown5 hown6 hkey hbp
    go_wp2_with (at_lookup; refine wpList_lookup_own_ok_int _ rfl _ _ 76 rfl 9 3 .i64 law Tryd.underlying76 Tryd.underlying3 (zeroE _) mb nn D rfl HO.out _ _ rfl HK.out ?_; intro c hat hwc; have HAT := Lib.hid hat; clear hat hwc)
    all_goals
      have htk : (rest2.extract 0 n).toList = (trim rest.data.toList).take n := by rw [Lib.extract_toList, HE4.out, List.drop_zero, Nat.sub_zero]
      have htd : (rest2.extract n rest2.size).data.toList = (trim rest.data.toList).drop n := by rw [Lib.extract_data, HE4.out, ← HE4.out, List.take_of_length_le (by simp)]
      have hrs : (rest2.extract n rest2.size).size ≤ rest.size := by have := HZ.out; rw [ByteArray.size_extract]; omega
      have hfl : f.length < 4294967296 := by have := HSM.out.2; omega
    · have h1 : ((rest2.extract 0 n).toList == [116, 114, 117, 101]) = true := by assumption
      rw [htk] at h1
      have hr := HR.out
      rw [word_t h1] at hr
      have HR := Lib.hid hr
      have HTD := Lib.hid htd
      have HRS := Lib.hid hrs
      clear h1 hr htk htd hrs
      refine (put_at p (.map (some mb)) (rest2.extract n rest2.size) fv f u 1 0 0 0 _ ((HR4.out.below HB5.out).rest_ _) hfl).mono ?_
      rintro e w6 ⟨rfl, fv6, hR6, hT6⟩
      have HR6 := Lib.hid hR6
      have HT6 := Lib.hid hT6
      clear hR6 hT6
      go_wp2_with fail
      go_ret
      rw [← HR.out]
      exact ⟨_, fv6, rfl, by rw [HTD.out], HRS.out, HR6.out, (((HT3.out.trans HT4.out).below HB5.out).set 1 _).trans HT6.out⟩
    · have h1 : ((rest2.extract 0 n).toList == [116, 114, 117, 101]) = false := by assumption
      have h2 : ((rest2.extract 0 n).toList == [102, 97, 108, 115, 101]) = true := by assumption
      rw [htk] at h1 h2
      have hr := HR.out
      rw [word_f h1 h2] at hr
      have HR := Lib.hid hr
      have HTD := Lib.hid htd
      have HRS := Lib.hid hrs
      clear h1 h2 hr htk htd hrs
      refine (put_at p (.map (some mb)) (rest2.extract n rest2.size) fv f u 0 0 0 0 _ ((HR4.out.below HB5.out).rest_ _) hfl).mono ?_
      rintro e w6 ⟨rfl, fv6, hR6, hT6⟩
      have HR6 := Lib.hid hR6
      have HT6 := Lib.hid hT6
      clear hR6 hT6
      go_wp2_with fail
      go_ret
      rw [← HR.out]
      exact ⟨_, fv6, rfl, by rw [HTD.out], HRS.out, HR6.out, (((HT3.out.trans HT4.out).below HB5.out).set 1 _).trans HT6.out⟩
    all_goals
      have h1 : ((rest2.extract 0 n).toList == [116, 114, 117, 101]) = false := by assumption
      have h2 : ((rest2.extract 0 n).toList == [102, 97, 108, 115, 101]) = false := by assumption
      have hD := HD.out ((trim rest.data.toList).take n)
      have hat := HAT.out
      rw [← Lib.toList_data, htk] at hat
      rw [hD.2] at hat
      rw [htk] at h1 h2
      have hr := HR.out
      rw [word_eq h1 h2] at hr
      obtain rfl : (((nm ((trim rest.data.toList).take n)).getD 0 : Nat) : Int) = c := by injection hat with hat; injection hat with _ hat
      have HR := Lib.hid hr
      have HTD := Lib.hid htd
      have HRS := Lib.hid hrs
      have HDX := Lib.hid hD.1
      have HTK := Lib.hid htk
      clear h1 h2 hr htk htd hrs hat hD
      refine (put_at p (.map (some mb)) (rest2.extract n rest2.size) fv f _ 2 _ 0 0 _ (((HR4.out.below HB5.out).rest_ _).unk _) hfl).mono ?_
      rintro e w6 ⟨rfl, fv6, hR6, hT6⟩
      have HR6 := Lib.hid hR6
      have HT6 := Lib.hid hT6
      clear hR6 hT6
      go_wp2_with fail
      go_ret
      rw [← HR.out]
    · have hu : u = true := by assumption
      have hR := HR6.out
      refine ⟨_, fv6, rfl, by rw [HTD.out], HRS.out, ?_, ((((HT3.out.trans HT4.out).below HB5.out).set 1 _).set 3 _).trans HT6.out⟩
      rw [hu]
      exact hR
    · have hu : u = false := by simpa using (show ¬ u = true by assumption)
      have hR := HR6.out
      refine ⟨_, fv6, rfl, by rw [HTD.out], HRS.out, ?_, ((((HT3.out.trans HT4.out).below HB5.out).set 1 _).set 3 _).trans HT6.out⟩
      rw [hu]
      rw [HE4.out, HDX.out] at hR
      simpa using hR

/-- All of the parser's calls. -/
theorem fac_all (nm : List UInt8 → Option Nat) (p mb : Nat) : ∀ k, FacC nm k p mb ∧ WholeC nm k p mb := by
  intro k
  induction k using Nat.strongRecOn with
  | _ k ih =>
    have hF : FacC nm k p mb := by
      intro rest fv f u w r hR hM hS _ hr
      cases k with
      | zero => simp [run] at hr
      | succ k =>
        obtain ⟨h1, h2⟩ := ih k (by omega)
        cases hs0 : skB rest.data.toList [33] with
        | true => exact L_fac_bang nm p mb k h1 rest fv f u w r hR hM hS hs0 hr
        | false =>
          cases hs1 : skB (skR rest.data.toList [33]) [40] with
          | true => exact L_fac_lp nm p mb k h2 rest fv f u w r hR hM hS hs0 hs1 hr
          | false => exact L_fac_no nm p mb k rest fv f u w r hR hM hS hs0 hs1 hr
    have hA : ∀ j, j ≤ k → AndC nm j p mb := L_and nm p mb k (fun j hj => (ih j hj).1)
    have hW : ∀ b j, j < k → W1C nm j p mb b := fun b j hj => L_w1 nm p mb b j (hA j (by omega))
    exact ⟨hF, L_whole nm p mb k (fun b => L_or nm p mb b k (hW b) k (Nat.le_refl _))⟩
end Go.Proofs.YtgpnpfjbkaehlaaDoor.Wk
namespace Go.Proofs.YtgpnpfjbkaehlaaDoor.Wk
open Go.RowKit Go.Shelf Go.Lib Go.Maps Go.Proofs.YtgpnpfjbkaehlaaDoorW.PrintWords Go.Proofs.YtgpnpfjbkaehlaaDoorW.PrintLast Go.Proofs.YtgpnpfjbkaehlaaDoorW.PrintMore Go.Proofs.YtgpnpfjbkaehlaaDoor.Nt Go.Proofs.YtgpnpfjbkaehlaaDoor.Fm
set_option linter.unusedVariables false
set_option linter.unusedSimpArgs false






/-- Block b of W is the map of the first k names. -/
def NMap (W : World) (b k : Nat) (xs : List (List UInt8)) : Prop :=
  ∃ D : DataW Unit, W.ownsMap Tryd.prog 9 (plainElem Tryd.prog 3) b k D ∧ (∀ s : List UInt8, Maps.has D (.string s) = (nmK xs k s).isSome ∧ D.atKey (.string s) (.lit (.int .i64 0)) = .lit (.int .i64 ((nmK xs k s).getD 0 : Nat))) ∧
    Maps.size D ≤ k ∧ (Maps.size D = k ↔ ndK xs k = true)

theorem step_D {xs : List (List UInt8)} {k : Nat} {s : List UInt8} (hg : xs[k]? = some s) {D : DataW Unit} (hT : Maps.Tidy D)
    (h : (∀ s : List UInt8, Maps.has D (.string s) = (nmK xs k s).isSome ∧ D.atKey (.string s) (.lit (.int .i64 0)) = .lit (.int .i64 ((nmK xs k s).getD 0 : Nat))) ∧ Maps.size D ≤ k ∧ (Maps.size D = k ↔ ndK xs k = true)) :
    (∀ t : List UInt8, Maps.has (D.put (.string s) (.lit (.int .i64 k))) (.string t) = (nmK xs (k + 1) t).isSome ∧ (D.put (.string s) (.lit (.int .i64 k))).atKey (.string t) (.lit (.int .i64 0)) = .lit (.int .i64 ((nmK xs (k + 1) t).getD 0 : Nat))) ∧
      Maps.size (D.put (.string s) (.lit (.int .i64 k))) ≤ k + 1 ∧ (Maps.size (D.put (.string s) (.lit (.int .i64 k))) = k + 1 ↔ ndK xs (k + 1) = true) := by
  obtain ⟨h1, h2, h3⟩ := h
  refine ⟨fun t => ?_, ?_⟩
  · rw [nmK_succ hg]
    by_cases hst : s = t
    · subst hst
      rw [if_pos rfl, Maps.has_put_same hT.isMap (show WideAt.IsKeyLit (Lit.string s) from trivial), Maps.atKey_put_same hT.isMap (show WideAt.IsKeyLit (Lit.string s) from trivial)]
      exact ⟨rfl, rfl⟩
    · have hne : (Lit.string t) ≠ (Lit.string s) := fun e => hst (by injection e with e; exact e.symm)
      rw [if_neg hst, Maps.has_put_other hne, Maps.atKey_put_other hne]
      exact h1 t
  · rw [Maps.size_put hT, ndK_succ hg, (h1 s).1]
    cases hn : nmK xs k s with
    | none =>
      simp only [Option.isSome_none, Bool.false_eq_true, if_false, Option.isNone_none, Bool.and_true]
      rw [← h3]
      omega
    | some i =>
      simp only [Option.isSome_some, if_true, Option.isNone_some, Bool.and_false]
      refine ⟨by omega, fun h => by omega, fun h => by cases h⟩

theorem okName_f {s : ByteArray} (h : s.toList = [] ∨ s.toList = trueW ∨ ((s.toList.isEmpty = true ∨ (s.toList == trueW) = true) ∨ (s.toList == falseW) = true) ∨ ¬ ((idl s.data.toList : Nat) : Int) = (s.size : Int)) : okName s.data.toList = false := by
  rw [Lib.toList_data] at h
  have hl : s.data.toList.length = s.size := by rw [Array.length_toList]; rfl
  cases hx : okName s.data.toList with
  | false => rfl
  | true =>
    exfalso
    simp only [okName, Bool.and_eq_true, Bool.not_eq_true', beq_iff_eq, beq_eq_false_iff_ne] at hx
    obtain ⟨⟨⟨x1, x2⟩, x3⟩, x4⟩ := hx
    rw [hl] at x2
    rcases h with h | h | ((h | h) | h) | h
    · rw [h] at x1; cases x1
    · exact x3 h
    · rw [h] at x1; cases x1
    · exact x3 (by simpa using h)
    · exact x4 (by simpa using h)
    · exact h (by omega)
theorem okName_t {s : ByteArray} (h1 : ((idl s.data.toList : Nat) : Int) = (s.size : Int)) (h2 : (s.toList.isEmpty = false ∧ (s.toList == trueW) = false) ∧ (s.toList == falseW) = false) : okName s.data.toList = true := by
  rw [Lib.toList_data] at h2
  have hl : s.data.toList.length = s.size := by rw [Array.length_toList]; rfl
  have h3 : idl s.data.toList = s.data.toList.length := by omega
  simp only [okName, h2.1.1, h2.1.2, h2.2, h3]
  simp

def NumP (xs : List (List UInt8)) (w : World) (e : Ending) (w' : World) : Prop :=
  Below w.heap.size w w' ∧ ((namesOK xs = true ∧ ∃ mb, e = .returned (.tuple #[.map (some mb), .bool true]) ∧ w.heap.size ≤ mb ∧ NmMap w' mb (nmOf xs)) ∨ (namesOK xs = false ∧ ∃ mv, e = .returned (.tuple #[mv, .bool false])))

set_option maxHeartbeats 2000000 in
set_option maxRecDepth 100000 in
theorem numbers_any (A : Option Addr) (c : Nat) (ns : List ByteArray) (w : World) (hC : Kd.string.C w A ns.length ns) (hc : ns.length ≤ c) (hn : ns.length < 4294967296) (hs : ∀ s ∈ ns, s.size ≤ 9223372036854775807) :
    Calls Tryd.prog 43 #[.slice A ns.length c] w (NumP (ns.map fun s => s.data.toList) w) := by
  have hmm := @run_makeMap Tryd.prog
  have law : Keyed Tryd.prog 9 := string_keyed Tryd.underlying9
  have HC := Lib.hid hC
  have HS := Lib.hid hs
  clear hC hs
  go_enter Tryd.func43, Tryd.ntmps43
  go_wp2_with fail
  go_loopg [10] ns.length (fun kq v10 wr => ∃ k : Nat, v10 = .int .i64 k ∧ Aside0 (k + kq = ns.length ∧ Below w.heap.size w wr ∧ NMap wr w.heap.size k (ns.map fun s => s.data.toList) ∧ (ns.take k).all (fun s => okName s.data.toList) = true))
  case atStart =>
    refine ⟨0, rfl, ⟨by omega, below_alloc (Below.refl _ _) _, ⟨_, World.ownsMap_made _ _ _ _, fun s => ⟨rfl, rfl⟩, Nat.le_refl _, by simp [ndK, Maps.size]⟩, rfl⟩⟩
  case round =>
    obtain ⟨k, rfl, HA⟩ := hrel
    by_cases hk : k < ns.length
    · obtain ⟨s, hsg⟩ : ∃ s, ns[k]? = some s := ⟨_, List.getElem?_eq_getElem hk⟩
      obtain ⟨ad, rfl, hcell⟩ := Kd.at_string (Kd.C_below HC.out HA.out.2.1) (k : Int) (by omega) (by omega)
      have hrd : rdOf ByteArray.empty ns (k : Int) = s := by simp [rdOf, List.getD_eq_getElem?_getD, hsg]
      rw [hrd, Int.toNat_natCast] at hcell
      have hsz := HS.out s (List.mem_of_getElem? hsg)
      have hid := fun w1 => ident_any s w1 hsz
      have hkey : keyOf Tryd.prog 9 (.string s) = some (.string s.data.toList) := Go.WideMaps.keyOf_string_mk Tryd.underlying9 hsz
      obtain ⟨D, hown, hD⟩ := HA.out.2.2.1
      have hwf : (Lit.int .i64 (k : Int)).wf = true := WalkArith.wf_i64 (by omega)
      have HID := Lib.hid hid
      have HSG := Lib.hid hsg
      have HKY := Lib.hid hkey
      have HOW := Lib.hid hown
      have HD := Lib.hid hD
      have HWF := Lib.hid hwf
      clear hid hsg hrd hsz hkey hown hD hwf
      go_wp2_with (first | (go_at_call 70; refine (HID.out _).mono ?_; rintro e w1 ⟨rfl, hb1⟩; have HOW1 := Lib.hid (HOW.out.kept (grown_of_below hb1 none) (by simp)); have HB1 := Lib.hid hb1; clear hb1) | (at_mapUpdate; refine wpList_mapUpdate_own _ rfl _ _ _ 76 rfl 9 3 law Tryd.underlying76 _ w.heap.size k D rfl HOW1.out (by unfold maxLen; omega) _ _ (.string s.data.toList) rfl rfl HKY.out (.lit (.int .i64 k)) [] (plainElem_int Tryd.underlying3 HWF.out) ?_; intro w2 hown2 hg2; have HOW2 := Lib.hid hown2; have HG2 := Lib.hid hg2; clear hown2 hg2))
      · have hb := okName_f (s := s) (.inl (by assumption))
        go_ret2
        exact ⟨HA.out.2.1, .inr ⟨names_bad (by rw [List.getElem?_map, HSG.out]; rfl) hb, _, rfl⟩⟩
      · have hb := okName_f (s := s) (.inr (.inl (by assumption)))
        go_ret2
        exact ⟨HA.out.2.1.trans (HB1.out.mono HA.out.2.1.size), .inr ⟨names_bad (by rw [List.getElem?_map, HSG.out]; rfl) hb, _, rfl⟩⟩
      · have hb := okName_f (s := s) (.inr (.inr (.inl (by assumption))))
        go_ret2
        exact ⟨HA.out.2.1.trans (HB1.out.mono HA.out.2.1.size), .inr ⟨names_bad (by rw [List.getElem?_map, HSG.out]; rfl) hb, _, rfl⟩⟩
      · have hb := okName_t (s := s) (by assumption) (by assumption)
        go_roundg (gk - 1)
        case measure => have := HA.out.1; omega
        case rel =>
          have hbw := HA.out.2.1.trans (HB1.out.mono HA.out.2.1.size)
          refine ⟨k + 1, by go_num, ⟨by have := HA.out.1; omega, pw_below_grown hbw (some w.heap.size) hbw.size HG2.out (fun q hq => by injection hq with hq; omega), ⟨_, HOW2.out, step_D (by rw [List.getElem?_map, HSG.out]; rfl) (HOW.out.tidy law) HD.out⟩, ?_⟩⟩
          rw [List.take_add_one, HSG.out]
          simp only [Option.toList_some, List.all_append, List.all_cons, List.all_nil, Bool.and_true, Bool.and_eq_true]
          exact ⟨HA.out.2.2.2, hb⟩
      · have hb := okName_f (s := s) (.inr (.inr (.inr (by assumption))))
        go_ret2
        exact ⟨HA.out.2.1.trans (HB1.out.mono HA.out.2.1.size), .inr ⟨names_bad (by rw [List.getElem?_map, HSG.out]; rfl) hb, _, rfl⟩⟩
    · have hkn : k = ns.length := by have := HA.out.1; omega
      subst hkn
      obtain ⟨D, hown, hD⟩ := HA.out.2.2.1
      have HOW := Lib.hid hown
      have HD := Lib.hid hD
      clear hown hD
      go_wp2_with (at_len; refine wpList_len_own _ rfl _ 76 rfl 9 3 Tryd.underlying76 _ w.heap.size _ D rfl HOW.out ?_)
      all_goals
        have hal : (ns.map fun s => s.data.toList).all okName = true := by
          have := HA.out.2.2.2
          rw [List.take_length] at this
          rw [List.all_map]
          exact this
        have hno := names_all hal
        have hd := HD.out
        rw [List.length_map] at hno
        go_ret2
      · have hsd : Maps.size D = ns.length := by omega
        have hnd := hd.2.2.1 hsd
        rw [hnd] at hno
        refine ⟨HA.out.2.1, ?_⟩
        have h2 : ∀ q : Bool, q = decide (ns.length ≤ 64) → Ending.returned (.tuple #[.map (some w.heap.size), .bool q]) = Ending.returned (.tuple #[.map (some w.heap.size), .bool (decide (ns.length ≤ 64))]) := fun q hq => by rw [hq]
        rw [Bool.true_and] at hno
        cases hq : decide (ns.length ≤ 64) with
        | true =>
          rw [hq] at hno h2
          refine .inl ⟨hno, w.heap.size, h2 _ ?_, Nat.le_refl _, _, D, HOW.out, ?_⟩
          · have := of_decide_eq_true hq
            exact decide_eq_true (by omega)
          · intro s
            rw [nmOf, List.length_map]
            exact hd.1 s
        | false =>
          rw [hq] at hno h2
          refine .inr ⟨hno, _, h2 _ ?_⟩
          have := of_decide_eq_false hq
          exact decide_eq_false (by omega)
      · have hsd : ¬ Maps.size D = ns.length := by omega
        have hnd : ndK (ns.map fun s => s.data.toList) ns.length = false := by
          cases hx : ndK (ns.map fun s => s.data.toList) ns.length with
          | false => rfl
          | true => exact absurd (hd.2.2.2 hx) hsd
        rw [hnd] at hno
        exact ⟨HA.out.2.1, .inr ⟨hno, _, rfl⟩⟩
end Go.Proofs.YtgpnpfjbkaehlaaDoor.Wk
namespace Go.Proofs.YtgpnpfjbkaehlaaDoor.Wk
open Go.RowKit Go.Shelf Go.Lib Go.Maps Go.Proofs.YtgpnpfjbkaehlaaDoorW.PrintWords Go.Proofs.YtgpnpfjbkaehlaaDoorW.PrintLast Go.Proofs.YtgpnpfjbkaehlaaDoorW.PrintMore Go.Proofs.YtgpnpfjbkaehlaaDoor.Nt Go.Proofs.YtgpnpfjbkaehlaaDoor.Fm
set_option linter.unusedVariables false
set_option linter.unusedSimpArgs false







set_option maxHeartbeats 2000000 in
theorem catch_idle (p q : Addr) (w : World) :
    CallsD Tryd.prog 44 #[.pointer (some p), .pointer (some q)] .returning w fun e u' w' => e = .returned (.tuple #[]) ∧ u' = .returning ∧ w' = w := by
  refine callsD_of_wpS Tryd.func44 rfl fun c₀ cs hu => ?_
  apply wpS_seq
  apply wpS_region
  simp [wpOpsS, go_sem, recoverD, hu, Tryd.ntmps44, Exit.thenS]
  apply wpS_seq
  apply wpS_region
  simp [wpOpsS, go_sem, recoverD, hu, Tryd.ntmps44, Exit.thenS]
  refine wpS_cond (t := false) (by simp [Act.eval, Array.replicate]) ?_
  simp only [Bool.false_eq_true, if_false]
  refine wpS_of_wp (wp_skip ?_)
  cases c₀
  simp_all [bodyPostS, results, Tryd.results44]

theorem assert_errno (c : Int) (w : World) : (Instr.typeAssert (.iface 31 (.int .i64 c)) 20 31 true).run Tryd.prog w = .ok (.tuple #[.int .i64 c, .bool true]) w := by kernel_rfl

set_option maxHeartbeats 2000000 in
set_option maxRecDepth 100000 in
theorem catch_panic (bf be : Nat) (fv : Value) (e0 c : Int) (older : List PanicEntry) (w : World) (hne : bf ≠ be) (hf : w.heap[bf]? = some (.cells #[fv] 26 (0, 0))) (he : w.heap[be]? = some (.cells #[.int .i64 e0] 31 (0, 0))) :
    CallsD Tryd.prog 44 #[.pointer (some ⟨bf, 0, none⟩), .pointer (some ⟨be, 0, none⟩)] (.panicking ({ v := .iface 31 (.int .i64 c), recovered := false } :: older)) w fun e u' w' =>
      e = .returned (.tuple #[]) ∧ u' = .panicking ({ v := .iface 31 (.int .i64 c), recovered := true } :: older) ∧ w' = (w.setCell ⟨bf, 0, none⟩ (.slice none 0 0)).setCell ⟨be, 0, none⟩ (.int .i64 c) := by
  refine callsD_of_wpS Tryd.func44 rfl fun c₀ cs hu => ?_
  have hta := assert_errno c
  have hbe : be ≠ bf := fun h => hne h.symm
  have c1 : w.cell? ⟨bf, 0, none⟩ = some fv := (blk_cell hf 0).trans rfl
  have c2 : w.cell? ⟨be, 0, none⟩ = some (.int .i64 e0) := (blk_cell he 0).trans rfl
  have z1 := blk_free hf 0
  have z2 := blk_free he 0
  apply wpS_seq
  apply wpS_region
  simp [wpOpsS, go_sem, recoverD, hu, Tryd.ntmps44, Exit.thenS]
  refine wpS_of_wp ?_
  obtain ⟨PQ, hPQ⟩ : ∃ PQ : Exit → Act → World → Prop, PQ = (fun e a' w' => bodyPostS Tryd.prog Tryd.f44 c₀ cs (fun e u' w' => e = .returned (.tuple #[]) ∧ u' = .panicking ({ v := .iface 31 (.int .i64 c), recovered := true } :: older) ∧ w' = (w.setCell ⟨bf, 0, none⟩ (.slice none 0 0)).setCell ⟨be, 0, none⟩ (.int .i64 c)) e a' ({ fn := c₀.fn, tmps := c₀.tmps, todo := c₀.todo, defers := c₀.defers, mode := .panicking ({ v := .iface 31 (.int .i64 c), recovered := true } :: older), kind := c₀.kind, roundOf := c₀.roundOf } :: cs) w') := ⟨_, rfl⟩
  rw [← hPQ]
  have HPQ := Lib.hid hPQ
  clear hPQ hu
  change Code.wp _ _ _ { tmps := #[.pointer (some ⟨bf, 0, none⟩), .pointer (some ⟨be, 0, none⟩), .iface 31 (.int .i64 c), undef, undef, .iface 31 (.int .i64 c), undef, undef, undef, undef, undef, undef, undef, undef, undef, undef, undef], defers := [] } w
  go_wp2
  rw [HPQ.out]
  simp [bodyPostS, results, Tryd.results44]

/-- What Parse gives of a string, out of the parser's run. -/
def fin (r : Option (Int × PS (List UInt8))) : List FN × Int :=
  match r with
  | none => ([], 31)
  | some (_, st) => if st.rest ≠ [] then ([], 31) else if st.u = true then ([], 3) else if 512 < st.f.length then ([], 2) else (st.f, 0)

/-- What Parse comes to. -/
def ParP (w : World) (g : List FN × Int) (e : Ending) (w' : World) : Prop :=
  Below w.heap.size w w' ∧ ∃ A c, e = .returned (.tuple #[.slice A g.1.length c, .int .i64 g.2]) ∧ g.1.length ≤ c ∧ k62.C w' A g.1.length g.1

set_option maxHeartbeats 2000000 in
set_option maxRecDepth 100000 in
theorem parse_bad (A : Option Addr) (c : Nat) (ns : List ByteArray) (s : ByteArray) (w : World) (hC : Kd.string.C w A ns.length ns) (hc : ns.length ≤ c) (hn : ns.length < 4294967296) (hs : ∀ s ∈ ns, s.size ≤ 9223372036854775807)
    (hok : namesOK (ns.map fun s => s.data.toList) = false) : Calls Tryd.prog 18 #[.slice A ns.length c, .string s] w (ParP w ([], 1)) := by
  have hnum := numbers_any A c ns
  have hmf : ∀ (fn : Fn) (first cap : Array Value) (w : World), (Instr.makeFunc fn first cap).run Tryd.prog w = .ok (.func fn first cap) w := fun _ _ _ _ => rfl
  have HN := Lib.hid (fun w1 h1 => numbers_any A c ns w1 h1 hc hn hs)
  have HC := Lib.hid hC
  have HOK := Lib.hid hok
  clear hC hok hs hnum
  go_enter_defers Tryd.func18, Tryd.ntmps18
  go_wp2_with fail
  refine (HN.out _ (Kd.C_alloc (Kd.C_alloc HC.out _) _)).mono ?_
  rintro e w1 ⟨hb, ⟨h1, _⟩ | ⟨_, mv, rfl⟩⟩
  · rw [HOK.out] at h1; cases h1
  · have B1 := blk_below (blk_alloc (blk_new w (.cells #[.slice none 0 0] 26)) (.cells #[.int .i64 0] 31)) hb
    have B2 := blk_below (blk_new (w.alloc (.cells #[.slice none 0 0] 26)) (.cells #[.int .i64 0] 31)) hb
    rw [show (w.alloc (.cells #[.slice none 0 0] 26)).heap.size = w.heap.size + 1 by simp] at B2
    have c1 : w1.cell? ⟨w.heap.size, 0, none⟩ = some (.slice none 0 0) := (blk_cell B1 0).trans rfl
    have c2 : w1.cell? ⟨w.heap.size + 1, 0, none⟩ = some (.int .i64 0) := (blk_cell B2 0).trans rfl
    have z1 := blk_free B1 0
    have z2 := blk_free B2 0
    have HB := Lib.hid hb
    clear hb B1 B2
    go_wp2_with fail
    have hbw : Below w.heap.size w w1 := (below_alloc (below_alloc (Below.refl _ _) _) _).trans (HB.out.mono (by simp; omega))
    refine ⟨.tuple #[.slice none 0 0, .int .i64 1], ?_, (hbw.setCell (p := ⟨w.heap.size, 0, none⟩) (Nat.le_refl _) _).setCell (p := ⟨w.heap.size + 1, 0, none⟩) (Nat.le_succ _) _, none, 0, rfl, Nat.le_refl _, Kd.C_nil _ _⟩
    simp [results, Tryd.results18, go_sem, c1, c2]

set_option maxHeartbeats 4000000 in
set_option maxRecDepth 100000 in
theorem parse_good (A : Option Addr) (c : Nat) (ns : List ByteArray) (s : ByteArray) (w : World) (hC : Kd.string.C w A ns.length ns) (hc : ns.length ≤ c) (hn : ns.length < 4294967296) (hs : ∀ s ∈ ns, s.size ≤ 9223372036854775807)
    (hok : namesOK (ns.map fun s => s.data.toList) = true) (hsz : s.size < 2147483648) (k : Nat) (r) (hr : run lex1 (nmOf (ns.map fun s => s.data.toList)) k (.ex false) 0 ⟨trim s.data.toList, [], false⟩ = some r) :
    Calls Tryd.prog 18 #[.slice A ns.length c, .string s] w (ParP w (fin r)) := by
  have hmf : ∀ (fn : Fn) (first cap : Array Value) (w : World), (Instr.makeFunc fn first cap).run Tryd.prog w = .ok (.func fn first cap) w := fun _ _ _ _ => rfl
  have HN := Lib.hid (fun w1 h1 => numbers_any A c ns w1 h1 hc hn hs)
  have HC := Lib.hid hC
  have HOK := Lib.hid hok
  have HRN := Lib.hid hr
  have HSZ := Lib.hid hsz
  clear hC hok hs hr hsz
  go_enter_defers Tryd.func18, Tryd.ntmps18
  go_wp2_with fail
  refine (HN.out _ (Kd.C_alloc (Kd.C_alloc HC.out _) _)).mono ?_
  rintro e w1 ⟨hb, ⟨_, mb, rfl, hmb, hM⟩ | ⟨h1, _⟩⟩
  rotate_left
  · rw [HOK.out] at h1; cases h1
  · have B1 := blk_below (blk_alloc (blk_new w (.cells #[.slice none 0 0] 26)) (.cells #[.int .i64 0] 31)) hb
    have B2 := blk_below (blk_new (w.alloc (.cells #[.slice none 0 0] 26)) (.cells #[.int .i64 0] 31)) hb
    rw [show (w.alloc (.cells #[.slice none 0 0] 26)).heap.size = w.heap.size + 1 by simp] at B2
    have hw1 : w.heap.size + 1 < w1.heap.size := blk_lt B2
    have HB1 := Lib.hid B1
    have HB2 := Lib.hid B2
    have HB := Lib.hid hb
    have HM := Lib.hid hM
    clear hb B1 B2 hM
    have hbw : Below w.heap.size w w1 := (below_alloc (below_alloc (Below.refl _ _) _) _).trans (HB.out.mono (by simp; omega))
    have hbx : Below w1.heap.size w1 (w1.alloc (.cells #[.map (some mb), .string s, .slice none 0 0, .bool false] 82)) := below_alloc (Below.refl _ _) _
    have hM2 : NmMap (w1.alloc (.cells #[.map (some mb), .string s, .slice none 0 0, .bool false] 82)) mb (nmOf (ns.map fun s => s.data.toList)) := by
      obtain ⟨es, cl, hb⟩ := HM.out.obj
      exact HM.out.of_blk ((blk_below hb hbx).trans hb.symm)
    have hR2 : Rd (w1.alloc (.cells #[.map (some mb), .string s, .slice none 0 0, .bool false] 82)) w1.heap.size (.map (some mb)) s (.slice none 0 0) [] false := ⟨blk_new _ _, Kd.R_nil _ _ _ _ _⟩
    have hS2 : Sm s ([] : List FN) := ⟨HSZ.out, by
      have h1 := trim_le s.data.toList
      have h2 : s.data.toList.length = s.size := by rw [Array.length_toList]; rfl
      have h3 := HSZ.out
      simp only [List.length_nil]
      omega⟩
    have hw := (fac_all (nmOf (ns.map fun s => s.data.toList)) w1.heap.size mb k).2 s (.slice none 0 0) [] false _ r hR2 hM2 hS2 trivial HRN.out
    have hE1 := blk_below HB1.out hbx
    have hE2 := blk_below HB2.out hbx
    have HW := Lib.hid hw
    have HBW := Lib.hid hbw
    have HBX := Lib.hid hbx
    have HE1 := Lib.hid hE1
    have HE2 := Lib.hid hE2
    clear hbw hbx hM2 hR2 hS2 hw hE1 hE2
    go_wp2_with fail
    cases r with
    | none =>
      refine HW.out.mono ?_
      rintro e w3 ⟨rfl, fv3, hT3⟩
      have HD1 := Lib.hid (hT3.blk HE1.out (by omega) (by simp [Value.ownBlock]))
      have HD2 := Lib.hid (hT3.blk HE2.out (by omega) (by simp [Value.ownBlock]))
      have HBW := Lib.hid ((HBW.out.trans (HBX.out.mono (by omega))).trans (hT3.own (B := w.heap.size) (by simp; omega) (by omega) (by simp [Value.ownBlock])))
      have HFIN := Lib.hid (show fin none = ([], 31) from rfl)
      clear hT3
      refine leaves_cons (f := 44) (args := #[.pointer (some ⟨w.heap.size, 0, none⟩), .pointer (some ⟨w.heap.size + 1, 0, none⟩)]) (by simp) (by simp [go_sem]) ?_
      refine (catch_panic w.heap.size (w.heap.size + 1) (.slice none 0 0) 0 31 [] _ (by omega) HD1.out HD2.out).mono ?_
      rintro e u' w'' ⟨rfl, rfl, rfl⟩
      have d1 : w3.cell? ⟨w.heap.size, 0, none⟩ = some (.slice none 0 0) := (blk_cell HD1.out 0).trans rfl
      have d2 : w3.cell? ⟨w.heap.size + 1, 0, none⟩ = some (.int .i64 0) := (blk_cell HD2.out 0).trans rfl
      refine ⟨.tuple #[.slice none 0 0, .int .i64 31], ?_, ?_⟩
      · simp [results, Tryd.results18, go_sem, d1, d2]
      · rw [HFIN.out]
        exact ⟨(HBW.out.setCell (p := ⟨w.heap.size, 0, none⟩) (Nat.le_refl _) _).setCell (p := ⟨w.heap.size + 1, 0, none⟩) (Nat.le_succ _) _, none, 0, rfl, Nat.le_refl _, Kd.C_nil _ _⟩
    | some q =>
      obtain ⟨a1, l1, f1, u1⟩ := q
      refine HW.out.mono ?_
      rintro e w3 ⟨rest', fv3, rfl, ht3, hz3, hR3, hT3⟩
      change trim rest'.data.toList = l1 at ht3
      subst ht3
      obtain ⟨A3, cc, rfl, hlc, _⟩ := Kd.R_reads hR3.2
      have HR3 := Lib.hid hR3
      have HT3 := Lib.hid hT3
      have HLC := Lib.hid hlc
      have hsk := skip_any w1.heap.size (.map (some mb)) rest' ⟨#[]⟩ (.slice A3 f1.length cc) f1 u1 w3 hR3
      change Calls _ _ _ _ (fun e w' => e = .returned (.bool (skB rest'.data.toList [])) ∧ Rd w' w1.heap.size (.map (some mb)) ⟨(skR rest'.data.toList []).toArray⟩ (.slice A3 f1.length cc) f1 u1 ∧ Turn w1.heap.size (.slice A3 f1.length cc) w3 (.slice A3 f1.length cc) w') at hsk
      rw [skR_nil] at hsk
      obtain ⟨rest4, hr4⟩ : ∃ rest4 : ByteArray, rest4 = ⟨(trim rest'.data.toList).toArray⟩ := ⟨_, rfl⟩
      rw [← hr4] at hsk
      have hr5 : trim rest'.data.toList = rest4.toList := by rw [hr4, Lib.toList_data]
      have HR5 := Lib.hid hr5
      have HSK := Lib.hid hsk
      clear hR3 hT3 hlc hsk hr4 hr5
      go_wp2_with fail
      refine HSK.out.mono ?_
      rintro e w4 ⟨rfl, hR4, hT4⟩
      obtain ⟨_, c1, c2, c3, _, _, _⟩ := hR4.c
      have hT := HT3.out.trans hT4
      have hd1 := hT.blk HE1.out (by omega) (by simp [Value.ownBlock])
      have hd2 := hT.blk HE2.out (by omega) (by simp [Value.ownBlock])
      have HD1 := Lib.hid hd1
      have HD2 := Lib.hid hd2
      have d1 : w4.cell? ⟨w.heap.size, 0, none⟩ = some (.slice none 0 0) := (blk_cell hd1 0).trans rfl
      have d2 : w4.cell? ⟨w.heap.size + 1, 0, none⟩ = some (.int .i64 0) := (blk_cell hd2 0).trans rfl
      have z1 := blk_free hd1 0
      have z2 := blk_free hd2 0
      have HBW := Lib.hid ((HBW.out.trans (HBX.out.mono (by omega))).trans (hT.own (B := w.heap.size) (by simp; omega) (by omega) (by simp [Value.ownBlock])))
      have HR4 := Lib.hid hR4
      clear hR4 hT4 hT hd1 hd2
      go_wp2_with fail
      · have hfin : fin (some (a1, ⟨trim rest'.data.toList, f1, u1⟩)) = ([], 31) := by
          have h1 : (!rest4.toList.isEmpty) = true := by assumption
          simp only [fin]
          rw [if_pos (by rw [HR5.out]; intro h; rw [h] at h1; cases h1)]
        have HFIN := Lib.hid hfin
        clear hfin
        refine leaves_cons (f := 44) (args := #[.pointer (some ⟨w.heap.size, 0, none⟩), .pointer (some ⟨w.heap.size + 1, 0, none⟩)]) (by simp) (by simp [go_sem]) ?_
        refine (catch_panic w.heap.size (w.heap.size + 1) (.slice none 0 0) 0 31 [] _ (by omega) HD1.out HD2.out).mono ?_
        rintro e u' w'' ⟨rfl, rfl, rfl⟩
        refine ⟨.tuple #[.slice none 0 0, .int .i64 31], ?_, ?_⟩
        · simp [results, Tryd.results18, go_sem, d1, d2]
        · rw [HFIN.out]
          exact ⟨(HBW.out.setCell (p := ⟨w.heap.size, 0, none⟩) (Nat.le_refl _) _).setCell (p := ⟨w.heap.size + 1, 0, none⟩) (Nat.le_succ _) _, none, 0, rfl, Nat.le_refl _, Kd.C_nil _ _⟩
      · have hfin : fin (some (a1, ⟨trim rest'.data.toList, f1, true⟩)) = ([], 3) := by
          have h1 : (!rest4.toList.isEmpty) = false := by assumption
          simp only [fin]
          rw [if_neg (by rw [HR5.out]; simpa using h1), if_pos trivial]
        have HFIN := Lib.hid hfin
        clear hfin
        refine leaves_cons (f := 44) (args := #[.pointer (some ⟨w.heap.size, 0, none⟩), .pointer (some ⟨w.heap.size + 1, 0, none⟩)]) (by simp) (by simp [go_sem]) ?_
        refine (catch_panic w.heap.size (w.heap.size + 1) (.slice none 0 0) 0 3 [] _ (by omega) HD1.out HD2.out).mono ?_
        rintro e u' w'' ⟨rfl, rfl, rfl⟩
        refine ⟨.tuple #[.slice none 0 0, .int .i64 3], ?_, ?_⟩
        · simp [results, Tryd.results18, go_sem, d1, d2]
        · rw [HFIN.out]
          exact ⟨(HBW.out.setCell (p := ⟨w.heap.size, 0, none⟩) (Nat.le_refl _) _).setCell (p := ⟨w.heap.size + 1, 0, none⟩) (Nat.le_succ _) _, none, 0, rfl, Nat.le_refl _, Kd.C_nil _ _⟩
      · have hfin : fin (some (a1, ⟨trim rest'.data.toList, f1, false⟩)) = ([], 2) := by
          have h1 : (!rest4.toList.isEmpty) = false := by assumption
          have h2 : 512 < (f1.length : Int) := by assumption
          simp only [fin]
          rw [if_neg (by rw [HR5.out]; simpa using h1), if_neg (by simp), if_pos (by omega)]
        have HFIN := Lib.hid hfin
        clear hfin
        refine leaves_cons (f := 44) (args := #[.pointer (some ⟨w.heap.size, 0, none⟩), .pointer (some ⟨w.heap.size + 1, 0, none⟩)]) (by simp) (by simp [go_sem]) ?_
        refine (catch_panic w.heap.size (w.heap.size + 1) (.slice none 0 0) 0 2 [] _ (by omega) HD1.out HD2.out).mono ?_
        rintro e u' w'' ⟨rfl, rfl, rfl⟩
        refine ⟨.tuple #[.slice none 0 0, .int .i64 2], ?_, ?_⟩
        · simp [results, Tryd.results18, go_sem, d1, d2]
        · rw [HFIN.out]
          exact ⟨(HBW.out.setCell (p := ⟨w.heap.size, 0, none⟩) (Nat.le_refl _) _).setCell (p := ⟨w.heap.size + 1, 0, none⟩) (Nat.le_succ _) _, none, 0, rfl, Nat.le_refl _, Kd.C_nil _ _⟩
      · have hu : u1 = false := by assumption
        have hfin : fin (some (a1, ⟨trim rest'.data.toList, f1, u1⟩)) = (f1, 0) := by
          have h1 : (!rest4.toList.isEmpty) = false := by assumption
          have h2 : (f1.length : Int) ≤ 512 := by assumption
          simp only [fin]
          rw [if_neg (by rw [HR5.out]; simpa using h1), if_neg (by rw [hu]; simp), if_neg (by omega)]
        have HFIN := Lib.hid hfin
        clear hfin
        refine leaves_cons (f := 44) (args := #[.pointer (some ⟨w.heap.size, 0, none⟩), .pointer (some ⟨w.heap.size + 1, 0, none⟩)]) (by simp) (by simp [go_sem]) ?_
        refine (catch_idle ⟨w.heap.size, 0, none⟩ ⟨w.heap.size + 1, 0, none⟩ _).mono ?_
        rintro e u' w'' ⟨rfl, rfl, rfl⟩
        refine ⟨.tuple #[.slice A3 f1.length cc, .int .i64 0], ?_, ?_⟩
        · simp [results, Tryd.results18, go_sem, d1, d2]
        · rw [HFIN.out]
          have hR := Kd.R_types (Kd.R_types HR4.out.2 HD1.out (by decide)) HD2.out (by decide)
          have hR' := Kd.R_far (Kd.R_far hR (p := ⟨w.heap.size, 0, none⟩) (fun k hk => hk.1.2) (.slice A3 f1.length cc)) (p := ⟨w.heap.size + 1, 0, none⟩) (fun k hk => hk.2) (.int .i64 0)
          obtain ⟨A', c', he, hl', hC'⟩ := Kd.R_reads hR'
          injection he with e1 e2 e3
          subst e1 e3
          exact ⟨(HBW.out.setCell (p := ⟨w.heap.size, 0, none⟩) (Nat.le_refl _) _).setCell (p := ⟨w.heap.size + 1, 0, none⟩) (Nat.le_succ _) _, A3, cc, rfl, hl', hC'⟩
end Go.Proofs.YtgpnpfjbkaehlaaDoor.Wk
namespace Go.Proofs.YtgpnpfjbkaehlaaDoor.Wk
open Go.RowKit Go.Shelf Go.Lib Go.Maps Go.Proofs.YtgpnpfjbkaehlaaDoorW.PrintWords Go.Proofs.YtgpnpfjbkaehlaaDoorW.PrintLast Go.Proofs.YtgpnpfjbkaehlaaDoorW.PrintMore Go.Proofs.YtgpnpfjbkaehlaaDoor.Nt
set_option linter.unusedVariables false
set_option linter.unusedSimpArgs false

/-- The builder at b, of the call's own from block B on, holds the bytes l. -/
def Bd (W : World) (B b : Nat) (l : List UInt8) : Prop := Lib.IsBuilderF 104 5 B b (Lib.byteCells l) W

/-- What a call that writes to it leaves. -/
def BdP (B b : Nat) (l : List UInt8) (w w' : World) : Prop := Bd w' B b l ∧ Below B w w' ∧ Lib.OthersKept 5 (some b) w w'

theorem byteCells_app (l m : List UInt8) : Lib.byteCells l ++ Lib.byteCells m = Lib.byteCells (l ++ m) := by simp [Lib.byteCells]

theorem wstr_any (B b : Nat) (l : List UInt8) (s : ByteArray) (w : World) (h : Bd w B b l) (hl : l.length + s.size ≤ 140737488355328) (hB : B ≤ w.heap.size) :
    Calls Tryd.prog 89 #[.pointer (some ⟨b, 0, none⟩), .string s] w fun e w' => (∃ v, e = .returned v) ∧ BdP B b (l ++ s.data.toList) w w' := by
  refine (Tryd.Builder_WriteString_k B b (Lib.byteCells l) s w h (by rw [Lib.byteCells_length]; exact hl) hB).mono ?_
  rintro e w' ⟨rfl, h1, h2, h3⟩
  refine ⟨⟨_, rfl⟩, ?_, h2, h3⟩
  rw [Lib.strCells_eq, byteCells_app] at h1
  exact .inr h1

theorem wbyte_any (B b : Nat) (l : List UInt8) (c : UInt8) (w : World) (h : Bd w B b l) (hl : l.length + 1 ≤ 140737488355328) (hB : B ≤ w.heap.size) :
    Calls Tryd.prog 88 #[.pointer (some ⟨b, 0, none⟩), .int .u8 c.toNat] w fun e w' => (∃ v, e = .returned v) ∧ BdP B b (l ++ [c]) w w' := by
  refine (Tryd.Builder_WriteByte_k B b (Lib.byteCells l) c.toNat w h (by rw [Lib.byteCells_length]; exact hl) hB).mono ?_
  rintro e w' ⟨rfl, h1, h2, h3⟩
  refine ⟨⟨_, rfl⟩, ?_, h2, h3⟩
  rw [show [Value.int .u8 (c.toNat : Int)] = Lib.byteCells [c] from rfl, byteCells_app] at h1
  exact .inr h1

theorem formF {w : World} {B : Nat} {e : TypeId} {v : Value} {n : Nat} {xs : List Value} (h : w.ownsRowF B e 1 v (n + 1) xs) : ∃ g cap, v = .slice (some ⟨g, 0, none⟩) (n + 1) cap := by
  rcases h.2 with ⟨_, h0⟩ | ⟨g, cap, cur, fz, hv, _⟩
  · omega
  · exact ⟨g, cap, hv⟩

theorem infoB : (Tryd.prog.info? 5).map (fun i => (i.zero, i.size, i.bytes)) = some (some (.int .u8 0), 1, 1) := by kernel_rfl

set_option maxHeartbeats 2000000 in
set_option maxRecDepth 100000 in
/-- WriteByte, deferred. -/
theorem wbyte_def (B b : Nat) (l : List UInt8) (c : UInt8) (w : World) (h : Bd w B b l) (hl : l.length + 1 ≤ 140737488355328) (hB : B ≤ w.heap.size) :
    CallsD Tryd.prog 88 #[.pointer (some ⟨b, 0, none⟩), .int .u8 c.toNat] .returning w fun e u' w' => u' = .returning ∧ (∃ v, e = .returned v) ∧ BdP B b (l ++ [c]) w w' := by
  obtain ⟨i0, hi, hz0, hz1, hz2⟩ := info_parts infoB
  have HH := Lib.hid h
  have HL := Lib.hid hl
  clear h hl
  go_enter_d Tryd.func88, Tryd.ntmps88
  go_wp2_with fail
  refine (Tryd.Builder_copyCheck_k B b (Lib.byteCells l) _ HH.out).mono ?_
  rintro e w1 ⟨rfl, ⟨hBb, v, hbk, hown, hne⟩, hb1, hk1⟩
  have hlt : b < w1.heap.size := blk_lt hbk
  have c1 : w1.cell? ⟨b, 1, none⟩ = some v := (blk_cell hbk 1).trans rfl
  have HO := Lib.hid (hown.alloc (.cells #[.int .u8 c.toNat] 5))
  have HBK := Lib.hid hbk
  have HNE := Lib.hid hne
  have HB1 := Lib.hid hb1
  have HK1 := Lib.hid hk1
  have hbs : (Lib.byteCells l).length = l.length := Lib.byteCells_length l
  have HBS := Lib.hid hbs
  clear hown hbk hne hb1 hk1 hbs
  go_wp2_with (at_builtin; refine wpList_append_ownF _ rfl _ _ 22 rfl B 5 i0 (.int .u8 0) 1 1 Tryd.underlying22 hi hz0 hz1 hz2 rfl (by decide) _ _ _ rfl HO.out ⟨w1.heap.size, 0, none⟩ 1 1 [.int .u8 c.toNat] rfl rfl (cell_one_new _ _ _) (by intro u hu; rw [List.mem_singleton.1 hu]; rfl) (by rw [HBS.out]; unfold maxLen; have := HL.out; omega) (by rw [HBS.out]; have := HL.out; omega) (by have := HB1.out.size; simp; omega) ?_; intro v' w2 hown2 hg2 _; obtain ⟨g, cap, rfl⟩ := formF hown2; have HO2 := Lib.hid hown2; have HG2 := Lib.hid hg2; clear hown2 hg2; have hb2 := blk_grown (blk_alloc HBK.out (.cells #[.int .u8 c.toNat] 5)) HG2.out (fun e => HNE.out e.symm); have d1 : w2.cell? ⟨b, 1, none⟩ = some v := (blk_cell hb2 1).trans rfl; have f1 := blk_free hb2 1; have HB2 := Lib.hid hb2; clear hb2)
  go_ret
  refine ⟨⟨_, rfl⟩, .inr ?_, ?_, ?_⟩
  · have := Lib.BuilderAtF.put (T := 104) (e := 5) hBb HB2.out (bs' := Lib.byteCells l ++ [.int .u8 c.toNat]) (by simpa using HO2.out) (by decide)
    rw [show [Value.int .u8 (c.toNat : Int)] = Lib.byteCells [c] from rfl, byteCells_app] at this
    simpa using this
  · exact ((HB1.out.alloc (by have := HB1.out.size; omega) _).grown HG2.out (by have := HB1.out.size; simp; omega) (fun k hk => (HO.out.lt k hk).1)).setCell (p := ⟨b, 1, none⟩) hBb _
  · exact ((HK1.out.alloc _).grown HG2.out (Lib.ownsRowF_kind HO.out)).setCell ⟨b, 1, none⟩ rfl _
end Go.Proofs.YtgpnpfjbkaehlaaDoor.Wk
namespace Go.Proofs.YtgpnpfjbkaehlaaDoor.Wk
open Go.RowKit Go.Shelf Go.Lib Go.Maps Go.Proofs.YtgpnpfjbkaehlaaDoorW.PrintWords Go.Proofs.YtgpnpfjbkaehlaaDoorW.PrintLast Go.Proofs.YtgpnpfjbkaehlaaDoorW.PrintMore Go.Proofs.YtgpnpfjbkaehlaaDoor.Nt Go.Proofs.YtgpnpfjbkaehlaaDoor.Fm
set_option linter.unusedVariables false
set_option linter.unusedSimpArgs false

theorem BdP.trans {B b : Nat} {l l' : List UInt8} {w w1 w2 : World} (h : BdP B b l w w1) (k : BdP B b l' w1 w2) : BdP B b l' w w2 := ⟨k.1, h.2.1.trans k.2.1, h.2.2.trans k.2.2⟩
theorem BdP.size {B b : Nat} {l : List UInt8} {w w1 : World} (h : BdP B b l w w1) : w.heap.size ≤ w1.heap.size := h.2.1.size
theorem bdAt_below {p : Value} {B b : Nat} {bs : List Value} {W W' : World} (h : Lib.BuilderAtF 104 5 B b p bs W) (hb : Below W.heap.size W W') : Lib.BuilderAtF 104 5 B b p bs W' := by
  obtain ⟨hB, v, hv, hown, hne⟩ := h
  exact ⟨hB, v, blk_below hv hb, hown.kept (grown_of_below hb none) (Classical.em _), hne⟩
theorem Bd.below {W W' : World} {B b : Nat} {l : List UInt8} (h : Bd W B b l) (hb : Below W.heap.size W W') : Bd W' B b l := h.imp (fun x => bdAt_below x hb) (fun x => bdAt_below x hb)
theorem others_below {e : TypeId} {b : Option Nat} {w w1 : World} (hb : Below w.heap.size w w1) : Lib.OthersKept e b w w1 := fun k o hk _ _ => blk_below hk hb
theorem Bd.lt {W : World} {B b : Nat} {l : List UInt8} (h : Bd W B b l) : b < W.heap.size ∧ ∃ cs, W.heap[b]? = some (.cells cs 104 (0, 0)) := by
  rcases h with ⟨_, v, hv, _⟩ | ⟨_, v, hv, _⟩ <;> exact ⟨blk_lt hv, _, hv⟩
theorem below_BdP {B b : Nat} {l : List UInt8} {w w1 w2 : World} (hb : Below w.heap.size w w1) (hB : B ≤ w.heap.size) (h : BdP B b l w1 w2) : BdP B b l w w2 :=
  ⟨h.1, (hb.mono hB).trans h.2.1, (others_below hb).trans h.2.2⟩
/-- A block of another kind, behind what a builder's method leaves. -/
theorem BdP.blk {B b g : Nat} {l : List UInt8} {w w1 : World} {cs : Array Value} {t : TypeId} {fz : Nat × Nat} (h : BdP B b l w w1) (hg : w.heap[g]? = some (.cells cs t fz)) (h1 : g ≠ b) (h2 : t ≠ 5) : w1.heap[g]? = some (.cells cs t fz) :=
  h.2.2 g _ hg (fun e => h1 (by injection e)) (fun c fz' e => h2 (by injection e))

/-- What write is called with. -/
def WrC (ns : List ByteArray) (f : List FN) (t : Tr) : Prop :=
  ∀ (An Af : Option Addr) (cn cf B b i n : Nat) (l : List UInt8) (w0 w : World), Kd.string.C w0 An ns.length ns → ns.length ≤ cn → k62.C w0 Af f.length f → f.length ≤ cf → w0.heap.size ≤ B → B ≤ w.heap.size → Below w0.heap.size w0 w →
    Bd w B b l → f.length < 4294967296 → ns.length < 4294967296 → l.length + (wr (nzOf ns) n t).length ≤ 140737488355328 → n ≤ 2 → Rep f t i → VarsLt ns.length t →
    Calls Tryd.prog 55 #[.pointer (some ⟨b, 0, none⟩), .slice An ns.length cn, .slice Af f.length cf, .int .i64 i, .int .i64 n] w fun e w' => e = .returned (.tuple #[]) ∧ BdP B b (l ++ wr (nzOf ns) n t) w w'

theorem at_node {w : World} {A : Option Addr} {f : List FN} (h : k62.C w A f.length f) {i : Nat} {x : FN} (hx : f[i]? = some x) :
    ∃ ad, A = some ad ∧ i < f.length ∧ w.cell? (ad.add (i * 4)) = some (.int .i64 x.f0) ∧ w.cell? ⟨(ad.add (i * 4)).block, (ad.add (i * 4)).off + 1, none⟩ = some (.int .i64 x.f1) ∧ w.cell? ⟨(ad.add (i * 4)).block, (ad.add (i * 4)).off + 2, none⟩ = some (.int .i64 x.f2) ∧ w.cell? ⟨(ad.add (i * 4)).block, (ad.add (i * 4)).off + 3, none⟩ = some (.int .i64 x.f3) := by
  have hlt : i < f.length := (List.getElem?_eq_some_iff.1 hx).1
  obtain ⟨ad, e, h0, h1, h2, h3⟩ := at_T62 h (i : Int) (by omega) (by omega)
  have hr : rd_T62 f (i : Int) = x := by simp [rd_T62, List.getD_eq_getElem?_getD, hx]
  rw [hr] at h0 h1 h2 h3
  simp only [Int.toNat_natCast] at h0 h1 h2 h3
  exact ⟨ad, e, hlt, h0, h1, h2, h3⟩

theorem wr_con (nz : Nat → List UInt8) (n : Nat) (c : Bool) : wr nz n (.con c) = if c then trueW else falseW := rfl

set_option maxHeartbeats 2000000 in
set_option maxRecDepth 100000 in
theorem write_con (ns : List ByteArray) (f : List FN) (c : Bool) : WrC ns f (.con c) := by
  intro An Af cn cf B b i n l w0 w hCn hcn hCf hcf hB0 hBw hbw hbd hfl hnl hlen hn hrep _
  change f[i]? = some _ at hrep
  obtain ⟨ad, rfl, hif, h0, h1, h2, h3⟩ := at_node (Kd.C_below hCf hbw) hrep
  have HBD := Lib.hid hbd
  have hab : ∀ o, Below w.heap.size w (w.alloc o) := fun o => below_alloc (Below.refl _ _) o
  cases c
  · have hws := fun w1 h hB => wstr_any B b l ⟨#[102, 97, 108, 115, 101]⟩ w1 h hlen hB
    have HWS := Lib.hid hws
    clear hws hCn hCf hbw hbd hrep hlen hB0
    go_enter_defers Tryd.func55, Tryd.ntmps55
    go_wp2_with (first | (go_at_call 89; refine (HWS.out _ (HBD.out.below (hab _)) (by simp; omega)).mono ?_; rintro e w1 ⟨⟨v, rfl⟩, hp⟩) | go_in)
    exact ⟨.tuple #[], by simp [results, Tryd.results55, go_sem], rfl, below_BdP (hab _) hBw hp⟩
  · have hws := fun w1 h hB => wstr_any B b l ⟨#[116, 114, 117, 101]⟩ w1 h hlen hB
    have HWS := Lib.hid hws
    clear hws hCn hCf hbw hbd hrep hlen hB0
    go_enter_defers Tryd.func55, Tryd.ntmps55
    go_wp2_with (first | (go_at_call 89; refine (HWS.out _ (HBD.out.below (hab _)) (by simp; omega)).mono ?_; rintro e w1 ⟨⟨v, rfl⟩, hp⟩) | go_in)
    exact ⟨.tuple #[], by simp [results, Tryd.results55, go_sem], rfl, below_BdP (hab _) hBw hp⟩

set_option maxHeartbeats 2000000 in
set_option maxRecDepth 100000 in
theorem write_var (ns : List ByteArray) (f : List FN) (v : Nat) : WrC ns f (.var v) := by
  intro An Af cn cf B b i n l w0 w hCn hcn hCf hcf hB0 hBw hbw hbd hfl hnl hlen hn hrep hv
  change f[i]? = some _ at hrep
  change v < ns.length at hv
  obtain ⟨ad, rfl, hif, h0, h1, h2, h3⟩ := at_node (Kd.C_below hCf hbw) hrep
  obtain ⟨an, rfl, hn0⟩ := Kd.at_string (Kd.C_below hCn (hbw.trans ((below_alloc (Below.refl _ _) (.cells #[.int .i64 2, .int .i64 v, .int .i64 0, .int .i64 0] 62)).mono (by have := hbw.size; omega)))) (v : Int) (by omega) (by omega)
  obtain ⟨s, hs⟩ : ∃ s, s = rdOf ByteArray.empty ns (v : Int) := ⟨_, rfl⟩
  have hnz : nzOf ns v = s.data.toList := by rw [hs]; simp [nzOf, rdOf, List.getD_eq_getElem?_getD]
  rw [← hs, Int.toNat_natCast] at hn0
  have HBD := Lib.hid hbd
  have hab : ∀ o, Below w.heap.size w (w.alloc o) := fun o => below_alloc (Below.refl _ _) o
  have hsl : s.data.toList.length = s.size := by rw [Array.length_toList]; rfl
  have hws := fun w1 h hB => wstr_any B b l s w1 h (by simp only [wr, hnz, hsl] at hlen; exact hlen) hB
  rw [← hnz] at hws
  have HWS := Lib.hid hws
  clear hws hCn hCf hbw hbd hrep hlen hB0 hs hnz hsl
  go_enter_defers Tryd.func55, Tryd.ntmps55
  go_wp2_with (first | (go_at_call 89; refine (HWS.out _ (HBD.out.below (hab _)) (by simp; omega)).mono ?_; rintro e w1 ⟨⟨v, rfl⟩, hp⟩) | go_in)
  exact ⟨.tuple #[], by simp [results, Tryd.results55, go_sem], rfl, below_BdP (hab _) hBw hp⟩

set_option maxHeartbeats 2000000 in
set_option maxRecDepth 100000 in
theorem write_not (ns : List ByteArray) (f : List FN) (t : Tr) (ih : WrC ns f t) : WrC ns f (.not t) := by
  intro An Af cn cf B b i n l w0 w hCn hcn hCf hcf hB0 hBw hbw hbd hfl hnl hlen hn hrep hv
  obtain ⟨a, hrep, hra⟩ := hrep
  obtain ⟨ad, rfl, hif, h0, h1, h2, h3⟩ := at_node (Kd.C_below hCf hbw) hrep
  have HBD := Lib.hid hbd
  have hab : ∀ o, Below w.heap.size w (w.alloc o) := fun o => below_alloc (Below.refl _ _) o
  simp only [wr, List.length_cons] at hlen
  have hwb := fun w1 h hB => wbyte_any B b l 33 w1 h (by omega) hB
  have hwr := fun w1 hB1 hb1 h => ih An (some ad) cn cf B b a 2 (l ++ [33]) w0 w1 hCn hcn hCf hcf hB0 hB1 hb1 h hfl hnl (by rw [List.length_append, List.length_singleton]; omega) (by omega) hra hv
  change ∀ w1, Bd w1 B b l → B ≤ w1.heap.size → Calls _ _ #[_, .int .u8 33] _ _ at hwb
  have HWB := Lib.hid hwb
  have HWR := Lib.hid hwr
  have HBW := Lib.hid hbw
  have HB0 := Lib.hid hB0
  clear hwb hwr hCn hCf hbw hbd hrep hlen hB0 hra ih hv
  go_enter_defers Tryd.func55, Tryd.ntmps55
  have hbn : w.heap.size ≠ b := by have := HBD.out.lt.1; omega
  go_wp2_with (first | (go_at_call 88; refine (HWB.out _ (HBD.out.below (hab _)) (by simp; omega)).mono ?_; rintro e w1 ⟨⟨v, rfl⟩, hp⟩; have d2 : w1.cell? ⟨w.heap.size, 2, none⟩ = some (.int .i64 a) := (blk_cell (hp.blk (blk_new w _) hbn (by decide)) 2).trans rfl; have HP := Lib.hid hp; clear hp) | (go_at_call 87; go_in) | (go_at_call 55; refine (HWR.out _ (by have := HP.out.size; simp at this; omega) (HBW.out.trans ((below_BdP (hab _) hBw HP.out).2.1.mono HB0.out)) HP.out.1).mono ?_; rintro e w2 ⟨rfl, hp2⟩))
  refine ⟨.tuple #[], by simp [results, Tryd.results55, go_sem], rfl, ?_⟩
  have := below_BdP (hab _) hBw (HP.out.trans hp2)
  simpa [wr] using this
end Go.Proofs.YtgpnpfjbkaehlaaDoor.Wk
namespace Go.Proofs.YtgpnpfjbkaehlaaDoor.Wk
open Go.RowKit Go.Shelf Go.Lib Go.Maps Go.Proofs.YtgpnpfjbkaehlaaDoorW.PrintWords Go.Proofs.YtgpnpfjbkaehlaaDoorW.PrintLast Go.Proofs.YtgpnpfjbkaehlaaDoorW.PrintMore Go.Proofs.YtgpnpfjbkaehlaaDoor.Nt Go.Proofs.YtgpnpfjbkaehlaaDoor.Fm
set_option linter.unusedVariables false
set_option linter.unusedSimpArgs false


set_option maxHeartbeats 4000000 in
set_option maxRecDepth 100000 in
theorem write_and_bare (ns : List ByteArray) (f : List FN) (tl tr : Tr) (ihl : WrC ns f tl) (ihr : WrC ns f tr) (An Af : Option Addr) (cn cf B b i n : Nat) (l : List UInt8) (w0 w : World) (hCn : Kd.string.C w0 An ns.length ns) (hcn : ns.length ≤ cn) (hCf : k62.C w0 Af f.length f) (hcf : f.length ≤ cf) (hB0 : w0.heap.size ≤ B) (hBw : B ≤ w.heap.size) (hbw : Below w0.heap.size w0 w)
    (hbd : Bd w B b l) (hfl : f.length < 4294967296) (hnl : ns.length < 4294967296) (hlen : l.length + (wr (nzOf ns) n (.bin true tl tr)).length ≤ 140737488355328) (hn : n ≤ 2) (hrep : Rep f (.bin true tl tr) i) (hv : VarsLt ns.length (.bin true tl tr)) (hp0 : n ≤ 1) :
    Calls Tryd.prog 55 #[.pointer (some ⟨b, 0, none⟩), .slice An ns.length cn, .slice Af f.length cf, .int .i64 i, .int .i64 n] w fun e w' => e = .returned (.tuple #[]) ∧ BdP B b (l ++ wr (nzOf ns) n (.bin true tl tr)) w w' := by
  obtain ⟨a, a2, hrep, hra, hrb⟩ := hrep
  obtain ⟨ad, rfl, hif, h0, h1, h2, h3⟩ := at_node (Kd.C_below hCf hbw) hrep
  change w.cell? (ad.add (i * 4)) = some (.int .i64 4) at h0
  have HBD := Lib.hid hbd
  have hab : ∀ (w : World) o, Below w.heap.size w (w.alloc o) := fun w o => below_alloc (Below.refl _ _) o
  have hwe : l ++ wr (nzOf ns) n (.bin true tl tr) = (((l ++ wr (nzOf ns) 1 tl) ++ [32, 38, 38, 32]) ++ wr (nzOf ns) 2 tr) := by
    rw [wr_bare _ _ _ _ _ (show ¬ lv true < n by simp only [lv]; omega)]
    simp [lv]
  have hwl0 := congrArg List.length hwe
  simp only [List.length_append, List.length_cons, List.length_nil] at hwl0
  have hwl := fun w1 hB1 hb1 h => ihl An (some ad) cn cf B b a 1 l w0 w1 hCn hcn hCf hcf hB0 hB1 hb1 h hfl hnl (by (try simp only [List.length_append, List.length_cons, List.length_nil]); omega) (by omega) hra hv.1
  have hws := fun w1 h hB => wstr_any B b (l ++ wr (nzOf ns) 1 tl) ⟨#[32, 38, 38, 32]⟩ w1 h (by change _ + 4 ≤ _; (try simp only [List.length_append, List.length_cons, List.length_nil]); omega) hB
  have hwr := fun w1 hB1 hb1 h => ihr An (some ad) cn cf B b a2 2 ((l ++ wr (nzOf ns) 1 tl) ++ [32, 38, 38, 32]) w0 w1 hCn hcn hCf hcf hB0 hB1 hb1 h hfl hnl (by (try simp only [List.length_append, List.length_cons, List.length_nil]); omega) (by omega) hrb hv.2
  have HWE := Lib.hid hwe
  have HWL := Lib.hid hwl
  have HWS := Lib.hid hws
  have HWR := Lib.hid hwr
  have HBW := Lib.hid hbw
  have HB0 := Lib.hid hB0
  have hbn : w.heap.size ≠ b := by have := HBD.out.lt.1; omega
  clear hwe hwl0 hwl hws hwr hCn hCf hbw hbd hrep hlen hB0 hra hrb ihl ihr hv
  go_enter_defers Tryd.func55, Tryd.ntmps55
  go_wp2_with (go_at_call 87; go_in)
  refine (HWL.out _ (by simp; omega) (HBW.out.trans ((hab _ _).mono (by have := HBW.out.size; omega))) (HBD.out.below (hab _ _))).mono ?_
  rintro e w2 ⟨rfl, hp⟩
  have hk2 := hp.blk (blk_new w _) hbn (by decide)
  have HP2 := Lib.hid (below_BdP (hab _ _) hBw hp)
  have hz2 : w.heap.size < w2.heap.size := blk_lt hk2
  have HK2 := Lib.hid hk2
  clear hk2 hp
  go_wp2_with fail
  refine (HWS.out _ (HP2.out.1.below (hab _ _)) (by simp; omega)).mono ?_
  rintro e w3 ⟨⟨v3, rfl⟩, hp⟩
  have hk3 := hp.blk (blk_alloc HK2.out _) hbn (by decide)
  have HP3 := Lib.hid (HP2.out.trans (below_BdP (hab _ _) (by omega) hp))
  have hz3 : w.heap.size < w3.heap.size := blk_lt hk3
  have c3 : w3.cell? ⟨w.heap.size, 3, none⟩ = some (.int .i64 a2) := (blk_cell hk3 3).trans rfl
  clear hk3 hp
  go_wp2_with fail
  refine (HWR.out _ (by omega) (HBW.out.trans (HP3.out.2.1.mono HB0.out)) HP3.out.1).mono ?_
  rintro e w4 ⟨rfl, hp⟩
  have HP4 := Lib.hid (HP3.out.trans hp)
  have hz4 : w3.heap.size ≤ w4.heap.size := hp.size
  clear hp
  go_wp2_with fail
  refine ⟨.tuple #[], by simp [results, Tryd.results55, go_sem], rfl, ?_⟩
  rw [HWE.out]
  exact HP4.out

set_option maxHeartbeats 4000000 in
set_option maxRecDepth 100000 in
theorem write_and_par (ns : List ByteArray) (f : List FN) (tl tr : Tr) (ihl : WrC ns f tl) (ihr : WrC ns f tr) (An Af : Option Addr) (cn cf B b i n : Nat) (l : List UInt8) (w0 w : World) (hCn : Kd.string.C w0 An ns.length ns) (hcn : ns.length ≤ cn) (hCf : k62.C w0 Af f.length f) (hcf : f.length ≤ cf) (hB0 : w0.heap.size ≤ B) (hBw : B ≤ w.heap.size) (hbw : Below w0.heap.size w0 w)
    (hbd : Bd w B b l) (hfl : f.length < 4294967296) (hnl : ns.length < 4294967296) (hlen : l.length + (wr (nzOf ns) n (.bin true tl tr)).length ≤ 140737488355328) (hn : n ≤ 2) (hrep : Rep f (.bin true tl tr) i) (hv : VarsLt ns.length (.bin true tl tr)) (hp0 : 1 < n) :
    Calls Tryd.prog 55 #[.pointer (some ⟨b, 0, none⟩), .slice An ns.length cn, .slice Af f.length cf, .int .i64 i, .int .i64 n] w fun e w' => e = .returned (.tuple #[]) ∧ BdP B b (l ++ wr (nzOf ns) n (.bin true tl tr)) w w' := by
  obtain ⟨a, a2, hrep, hra, hrb⟩ := hrep
  obtain ⟨ad, rfl, hif, h0, h1, h2, h3⟩ := at_node (Kd.C_below hCf hbw) hrep
  change w.cell? (ad.add (i * 4)) = some (.int .i64 4) at h0
  have HBD := Lib.hid hbd
  have hab : ∀ (w : World) o, Below w.heap.size w (w.alloc o) := fun w o => below_alloc (Below.refl _ _) o
  have hwe : l ++ wr (nzOf ns) n (.bin true tl tr) = ((((l ++ [40]) ++ wr (nzOf ns) 1 tl) ++ [32, 38, 38, 32]) ++ wr (nzOf ns) 2 tr) ++ [41] := by
    rw [wr_par _ _ _ _ _ (show lv true < n from hp0)]
    simp [lv]
  have hwl0 := congrArg List.length hwe
  simp only [List.length_append, List.length_cons, List.length_nil] at hwl0
  have hwl := fun w1 hB1 hb1 h => ihl An (some ad) cn cf B b a 1 (l ++ [40]) w0 w1 hCn hcn hCf hcf hB0 hB1 hb1 h hfl hnl (by (try simp only [List.length_append, List.length_cons, List.length_nil]); omega) (by omega) hra hv.1
  have hws := fun w1 h hB => wstr_any B b ((l ++ [40]) ++ wr (nzOf ns) 1 tl) ⟨#[32, 38, 38, 32]⟩ w1 h (by change _ + 4 ≤ _; (try simp only [List.length_append, List.length_cons, List.length_nil]); omega) hB
  have hwr := fun w1 hB1 hb1 h => ihr An (some ad) cn cf B b a2 2 (((l ++ [40]) ++ wr (nzOf ns) 1 tl) ++ [32, 38, 38, 32]) w0 w1 hCn hcn hCf hcf hB0 hB1 hb1 h hfl hnl (by (try simp only [List.length_append, List.length_cons, List.length_nil]); omega) (by omega) hrb hv.2
  have hwb := fun w1 h hB => wbyte_any B b l 40 w1 h (by omega) hB
  change ∀ w1, Bd w1 B b l → B ≤ w1.heap.size → Calls _ _ #[_, .int .u8 40] _ _ at hwb
  have hwd := fun w1 h hB => wbyte_def B b ((((l ++ [40]) ++ wr (nzOf ns) 1 tl) ++ [32, 38, 38, 32]) ++ wr (nzOf ns) 2 tr) 41 w1 h (by (try simp only [List.length_append, List.length_cons, List.length_nil]); omega) hB
  have HWB := Lib.hid hwb
  have HWD := Lib.hid hwd
  clear hwb hwd
  have HWE := Lib.hid hwe
  have HWL := Lib.hid hwl
  have HWS := Lib.hid hws
  have HWR := Lib.hid hwr
  have HBW := Lib.hid hbw
  have HB0 := Lib.hid hB0
  have hbn : w.heap.size ≠ b := by have := HBD.out.lt.1; omega
  clear hwe hwl0 hwl hws hwr hCn hCf hbw hbd hrep hlen hB0 hra hrb ihl ihr hv
  go_enter_defers Tryd.func55, Tryd.ntmps55
  go_wp2_with (go_at_call 87; go_in)
  refine (HWB.out _ (HBD.out.below (hab _ _)) (by simp; omega)).mono ?_
  rintro e w1 ⟨⟨v, rfl⟩, hp⟩
  have hk1 := hp.blk (blk_new w _) hbn (by decide)
  have HP1 := Lib.hid (below_BdP (hab _ _) hBw hp)
  have hz1 : w.heap.size < w1.heap.size := blk_lt hk1
  have c0 : w1.cell? ⟨w.heap.size, 0, none⟩ = some (.int .i64 4) := (blk_cell hk1 0).trans rfl
  have c2 : w1.cell? ⟨w.heap.size, 2, none⟩ = some (.int .i64 a) := (blk_cell hk1 2).trans rfl
  have HK1 := Lib.hid hk1
  clear hk1 hp
  go_wp2_with fail
  refine (HWL.out _ (by omega) (HBW.out.trans (HP1.out.2.1.mono HB0.out)) HP1.out.1).mono ?_
  rintro e w2 ⟨rfl, hp⟩
  have hk2 := hp.blk HK1.out hbn (by decide)
  have HP2 := Lib.hid (HP1.out.trans hp)
  have hz2 : w.heap.size < w2.heap.size := blk_lt hk2
  have HK2 := Lib.hid hk2
  clear hk2 hp
  go_wp2_with fail
  refine (HWS.out _ (HP2.out.1.below (hab _ _)) (by simp; omega)).mono ?_
  rintro e w3 ⟨⟨v3, rfl⟩, hp⟩
  have hk3 := hp.blk (blk_alloc HK2.out _) hbn (by decide)
  have HP3 := Lib.hid (HP2.out.trans (below_BdP (hab _ _) (by omega) hp))
  have hz3 : w.heap.size < w3.heap.size := blk_lt hk3
  have c3 : w3.cell? ⟨w.heap.size, 3, none⟩ = some (.int .i64 a2) := (blk_cell hk3 3).trans rfl
  clear hk3 hp
  go_wp2_with fail
  refine (HWR.out _ (by omega) (HBW.out.trans (HP3.out.2.1.mono HB0.out)) HP3.out.1).mono ?_
  rintro e w4 ⟨rfl, hp⟩
  have HP4 := Lib.hid (HP3.out.trans hp)
  have hz4 : w3.heap.size ≤ w4.heap.size := hp.size
  clear hp
  go_wp2_with fail
  refine leaves_cons (f := 88) (args := #[.pointer (some ⟨b, 0, none⟩), .int .u8 41]) (by simp) (by simp [go_sem]) ?_
  refine (HWD.out _ HP4.out.1 (by omega)).mono ?_
  rintro e u' w5 ⟨rfl, ⟨v, rfl⟩, hp⟩
  refine ⟨.tuple #[], by simp [results, Tryd.results55, go_sem], rfl, ?_⟩
  rw [HWE.out]
  exact HP4.out.trans hp

set_option maxHeartbeats 4000000 in
set_option maxRecDepth 100000 in
theorem write_or_bare (ns : List ByteArray) (f : List FN) (tl tr : Tr) (ihl : WrC ns f tl) (ihr : WrC ns f tr) (An Af : Option Addr) (cn cf B b i n : Nat) (l : List UInt8) (w0 w : World) (hCn : Kd.string.C w0 An ns.length ns) (hcn : ns.length ≤ cn) (hCf : k62.C w0 Af f.length f) (hcf : f.length ≤ cf) (hB0 : w0.heap.size ≤ B) (hBw : B ≤ w.heap.size) (hbw : Below w0.heap.size w0 w)
    (hbd : Bd w B b l) (hfl : f.length < 4294967296) (hnl : ns.length < 4294967296) (hlen : l.length + (wr (nzOf ns) n (.bin false tl tr)).length ≤ 140737488355328) (hn : n ≤ 2) (hrep : Rep f (.bin false tl tr) i) (hv : VarsLt ns.length (.bin false tl tr)) (hp0 : n ≤ 0) :
    Calls Tryd.prog 55 #[.pointer (some ⟨b, 0, none⟩), .slice An ns.length cn, .slice Af f.length cf, .int .i64 i, .int .i64 n] w fun e w' => e = .returned (.tuple #[]) ∧ BdP B b (l ++ wr (nzOf ns) n (.bin false tl tr)) w w' := by
  obtain ⟨a, a2, hrep, hra, hrb⟩ := hrep
  obtain ⟨ad, rfl, hif, h0, h1, h2, h3⟩ := at_node (Kd.C_below hCf hbw) hrep
  change w.cell? (ad.add (i * 4)) = some (.int .i64 5) at h0
  have HBD := Lib.hid hbd
  have hab : ∀ (w : World) o, Below w.heap.size w (w.alloc o) := fun w o => below_alloc (Below.refl _ _) o
  have hwe : l ++ wr (nzOf ns) n (.bin false tl tr) = (((l ++ wr (nzOf ns) 0 tl) ++ [32, 124, 124, 32]) ++ wr (nzOf ns) 1 tr) := by
    rw [wr_bare _ _ _ _ _ (show ¬ lv false < n by simp only [lv]; omega)]
    simp [lv]
  have hwl0 := congrArg List.length hwe
  simp only [List.length_append, List.length_cons, List.length_nil] at hwl0
  have hwl := fun w1 hB1 hb1 h => ihl An (some ad) cn cf B b a 0 l w0 w1 hCn hcn hCf hcf hB0 hB1 hb1 h hfl hnl (by (try simp only [List.length_append, List.length_cons, List.length_nil]); omega) (by omega) hra hv.1
  have hws := fun w1 h hB => wstr_any B b (l ++ wr (nzOf ns) 0 tl) ⟨#[32, 124, 124, 32]⟩ w1 h (by change _ + 4 ≤ _; (try simp only [List.length_append, List.length_cons, List.length_nil]); omega) hB
  have hwr := fun w1 hB1 hb1 h => ihr An (some ad) cn cf B b a2 1 ((l ++ wr (nzOf ns) 0 tl) ++ [32, 124, 124, 32]) w0 w1 hCn hcn hCf hcf hB0 hB1 hb1 h hfl hnl (by (try simp only [List.length_append, List.length_cons, List.length_nil]); omega) (by omega) hrb hv.2
  have HWE := Lib.hid hwe
  have HWL := Lib.hid hwl
  have HWS := Lib.hid hws
  have HWR := Lib.hid hwr
  have HBW := Lib.hid hbw
  have HB0 := Lib.hid hB0
  have hbn : w.heap.size ≠ b := by have := HBD.out.lt.1; omega
  clear hwe hwl0 hwl hws hwr hCn hCf hbw hbd hrep hlen hB0 hra hrb ihl ihr hv
  go_enter_defers Tryd.func55, Tryd.ntmps55
  go_wp2_with (go_at_call 87; go_in)
  refine (HWL.out _ (by simp; omega) (HBW.out.trans ((hab _ _).mono (by have := HBW.out.size; omega))) (HBD.out.below (hab _ _))).mono ?_
  rintro e w2 ⟨rfl, hp⟩
  have hk2 := hp.blk (blk_new w _) hbn (by decide)
  have HP2 := Lib.hid (below_BdP (hab _ _) hBw hp)
  have hz2 : w.heap.size < w2.heap.size := blk_lt hk2
  have HK2 := Lib.hid hk2
  clear hk2 hp
  go_wp2_with fail
  refine (HWS.out _ (HP2.out.1.below (hab _ _)) (by simp; omega)).mono ?_
  rintro e w3 ⟨⟨v3, rfl⟩, hp⟩
  have hk3 := hp.blk (blk_alloc HK2.out _) hbn (by decide)
  have HP3 := Lib.hid (HP2.out.trans (below_BdP (hab _ _) (by omega) hp))
  have hz3 : w.heap.size < w3.heap.size := blk_lt hk3
  have c3 : w3.cell? ⟨w.heap.size, 3, none⟩ = some (.int .i64 a2) := (blk_cell hk3 3).trans rfl
  clear hk3 hp
  go_wp2_with fail
  refine (HWR.out _ (by omega) (HBW.out.trans (HP3.out.2.1.mono HB0.out)) HP3.out.1).mono ?_
  rintro e w4 ⟨rfl, hp⟩
  have HP4 := Lib.hid (HP3.out.trans hp)
  have hz4 : w3.heap.size ≤ w4.heap.size := hp.size
  clear hp
  go_wp2_with fail
  refine ⟨.tuple #[], by simp [results, Tryd.results55, go_sem], rfl, ?_⟩
  rw [HWE.out]
  exact HP4.out

set_option maxHeartbeats 4000000 in
set_option maxRecDepth 100000 in
theorem write_or_par (ns : List ByteArray) (f : List FN) (tl tr : Tr) (ihl : WrC ns f tl) (ihr : WrC ns f tr) (An Af : Option Addr) (cn cf B b i n : Nat) (l : List UInt8) (w0 w : World) (hCn : Kd.string.C w0 An ns.length ns) (hcn : ns.length ≤ cn) (hCf : k62.C w0 Af f.length f) (hcf : f.length ≤ cf) (hB0 : w0.heap.size ≤ B) (hBw : B ≤ w.heap.size) (hbw : Below w0.heap.size w0 w)
    (hbd : Bd w B b l) (hfl : f.length < 4294967296) (hnl : ns.length < 4294967296) (hlen : l.length + (wr (nzOf ns) n (.bin false tl tr)).length ≤ 140737488355328) (hn : n ≤ 2) (hrep : Rep f (.bin false tl tr) i) (hv : VarsLt ns.length (.bin false tl tr)) (hp0 : 0 < n) :
    Calls Tryd.prog 55 #[.pointer (some ⟨b, 0, none⟩), .slice An ns.length cn, .slice Af f.length cf, .int .i64 i, .int .i64 n] w fun e w' => e = .returned (.tuple #[]) ∧ BdP B b (l ++ wr (nzOf ns) n (.bin false tl tr)) w w' := by
  obtain ⟨a, a2, hrep, hra, hrb⟩ := hrep
  obtain ⟨ad, rfl, hif, h0, h1, h2, h3⟩ := at_node (Kd.C_below hCf hbw) hrep
  change w.cell? (ad.add (i * 4)) = some (.int .i64 5) at h0
  have HBD := Lib.hid hbd
  have hab : ∀ (w : World) o, Below w.heap.size w (w.alloc o) := fun w o => below_alloc (Below.refl _ _) o
  have hwe : l ++ wr (nzOf ns) n (.bin false tl tr) = ((((l ++ [40]) ++ wr (nzOf ns) 0 tl) ++ [32, 124, 124, 32]) ++ wr (nzOf ns) 1 tr) ++ [41] := by
    rw [wr_par _ _ _ _ _ (show lv false < n from hp0)]
    simp [lv]
  have hwl0 := congrArg List.length hwe
  simp only [List.length_append, List.length_cons, List.length_nil] at hwl0
  have hwl := fun w1 hB1 hb1 h => ihl An (some ad) cn cf B b a 0 (l ++ [40]) w0 w1 hCn hcn hCf hcf hB0 hB1 hb1 h hfl hnl (by (try simp only [List.length_append, List.length_cons, List.length_nil]); omega) (by omega) hra hv.1
  have hws := fun w1 h hB => wstr_any B b ((l ++ [40]) ++ wr (nzOf ns) 0 tl) ⟨#[32, 124, 124, 32]⟩ w1 h (by change _ + 4 ≤ _; (try simp only [List.length_append, List.length_cons, List.length_nil]); omega) hB
  have hwr := fun w1 hB1 hb1 h => ihr An (some ad) cn cf B b a2 1 (((l ++ [40]) ++ wr (nzOf ns) 0 tl) ++ [32, 124, 124, 32]) w0 w1 hCn hcn hCf hcf hB0 hB1 hb1 h hfl hnl (by (try simp only [List.length_append, List.length_cons, List.length_nil]); omega) (by omega) hrb hv.2
  have hwb := fun w1 h hB => wbyte_any B b l 40 w1 h (by omega) hB
  change ∀ w1, Bd w1 B b l → B ≤ w1.heap.size → Calls _ _ #[_, .int .u8 40] _ _ at hwb
  have hwd := fun w1 h hB => wbyte_def B b ((((l ++ [40]) ++ wr (nzOf ns) 0 tl) ++ [32, 124, 124, 32]) ++ wr (nzOf ns) 1 tr) 41 w1 h (by (try simp only [List.length_append, List.length_cons, List.length_nil]); omega) hB
  have HWB := Lib.hid hwb
  have HWD := Lib.hid hwd
  clear hwb hwd
  have HWE := Lib.hid hwe
  have HWL := Lib.hid hwl
  have HWS := Lib.hid hws
  have HWR := Lib.hid hwr
  have HBW := Lib.hid hbw
  have HB0 := Lib.hid hB0
  have hbn : w.heap.size ≠ b := by have := HBD.out.lt.1; omega
  clear hwe hwl0 hwl hws hwr hCn hCf hbw hbd hrep hlen hB0 hra hrb ihl ihr hv
  go_enter_defers Tryd.func55, Tryd.ntmps55
  go_wp2_with (go_at_call 87; go_in)
  refine (HWB.out _ (HBD.out.below (hab _ _)) (by simp; omega)).mono ?_
  rintro e w1 ⟨⟨v, rfl⟩, hp⟩
  have hk1 := hp.blk (blk_new w _) hbn (by decide)
  have HP1 := Lib.hid (below_BdP (hab _ _) hBw hp)
  have hz1 : w.heap.size < w1.heap.size := blk_lt hk1
  have c0 : w1.cell? ⟨w.heap.size, 0, none⟩ = some (.int .i64 5) := (blk_cell hk1 0).trans rfl
  have c2 : w1.cell? ⟨w.heap.size, 2, none⟩ = some (.int .i64 a) := (blk_cell hk1 2).trans rfl
  have HK1 := Lib.hid hk1
  clear hk1 hp
  go_wp2_with fail
  refine (HWL.out _ (by omega) (HBW.out.trans (HP1.out.2.1.mono HB0.out)) HP1.out.1).mono ?_
  rintro e w2 ⟨rfl, hp⟩
  have hk2 := hp.blk HK1.out hbn (by decide)
  have HP2 := Lib.hid (HP1.out.trans hp)
  have hz2 : w.heap.size < w2.heap.size := blk_lt hk2
  have HK2 := Lib.hid hk2
  clear hk2 hp
  go_wp2_with fail
  refine (HWS.out _ (HP2.out.1.below (hab _ _)) (by simp; omega)).mono ?_
  rintro e w3 ⟨⟨v3, rfl⟩, hp⟩
  have hk3 := hp.blk (blk_alloc HK2.out _) hbn (by decide)
  have HP3 := Lib.hid (HP2.out.trans (below_BdP (hab _ _) (by omega) hp))
  have hz3 : w.heap.size < w3.heap.size := blk_lt hk3
  have c3 : w3.cell? ⟨w.heap.size, 3, none⟩ = some (.int .i64 a2) := (blk_cell hk3 3).trans rfl
  clear hk3 hp
  go_wp2_with fail
  refine (HWR.out _ (by omega) (HBW.out.trans (HP3.out.2.1.mono HB0.out)) HP3.out.1).mono ?_
  rintro e w4 ⟨rfl, hp⟩
  have HP4 := Lib.hid (HP3.out.trans hp)
  have hz4 : w3.heap.size ≤ w4.heap.size := hp.size
  clear hp
  go_wp2_with fail
  refine leaves_cons (f := 88) (args := #[.pointer (some ⟨b, 0, none⟩), .int .u8 41]) (by simp) (by simp [go_sem]) ?_
  refine (HWD.out _ HP4.out.1 (by omega)).mono ?_
  rintro e u' w5 ⟨rfl, ⟨v, rfl⟩, hp⟩
  refine ⟨.tuple #[], by simp [results, Tryd.results55, go_sem], rfl, ?_⟩
  rw [HWE.out]
  exact HP4.out.trans hp

/-- write prints the tree. -/
theorem write_any (ns : List ByteArray) (f : List FN) : ∀ t : Tr, WrC ns f t := by
  intro t
  induction t with
  | con c => exact write_con ns f c
  | var v => exact write_var ns f v
  | not t ih => exact write_not ns f t ih
  | bin c l r ihl ihr =>
    intro An Af cn cf B b i n l0 w0 w hCn hcn hCf hcf hB0 hBw hbw hbd hfl hnl hlen hn hrep hv
    cases c with
    | true =>
      by_cases h : 1 < n
      · exact write_and_par ns f l r ihl ihr An Af cn cf B b i n l0 w0 w hCn hcn hCf hcf hB0 hBw hbw hbd hfl hnl hlen hn hrep hv h
      · exact write_and_bare ns f l r ihl ihr An Af cn cf B b i n l0 w0 w hCn hcn hCf hcf hB0 hBw hbw hbd hfl hnl hlen hn hrep hv (by omega)
    | false =>
      by_cases h : 0 < n
      · exact write_or_par ns f l r ihl ihr An Af cn cf B b i n l0 w0 w hCn hcn hCf hcf hB0 hBw hbw hbd hfl hnl hlen hn hrep hv h
      · exact write_or_bare ns f l r ihl ihr An Af cn cf B b i n l0 w0 w hCn hcn hCf hcf hB0 hBw hbw hbd hfl hnl hlen hn hrep hv (by omega)
end Go.Proofs.YtgpnpfjbkaehlaaDoor.Wk
namespace Go.Proofs.YtgpnpfjbkaehlaaDoor.Wk
open Go.RowKit Go.Shelf Go.Lib Go.Maps Go.Proofs.YtgpnpfjbkaehlaaDoorW.PrintWords Go.Proofs.YtgpnpfjbkaehlaaDoorW.PrintLast Go.Proofs.YtgpnpfjbkaehlaaDoorW.PrintMore Go.Proofs.YtgpnpfjbkaehlaaDoor.Nt Go.Proofs.YtgpnpfjbkaehlaaDoor.Fm
attribute [local go_sem] max2_int min2_int max_two min_two max_three min_three max_four min_four
set_option linter.unusedVariables false
set_option linter.unusedSimpArgs false

set_option maxHeartbeats 4000000 in
set_option maxRecDepth 100000 in
theorem arity_any (n : FN) (i : Int) (w : World) (hi : 0 ≤ i) (hi2 : i < 4294967296) :
    Calls Tryd.prog 58 #[.agg #[.int .i64 n.f0, .int .i64 n.f1, .int .i64 n.f2, .int .i64 n.f3], .int .i64 i] w fun e w' => e = .returned (.int .i64 (arI n i)) ∧ Below w.heap.size w w' := by
  have hu62 := Tryd.underlying62
  obtain ⟨o, v, a, b⟩ := n
  go_enter Tryd.func58, Tryd.ntmps58
  go_wp2
  all_goals
    go_ret
    refine ⟨ret_v (val_i ?_), below_alloc (below_alloc (Below.refl _ _) _) _⟩
    clear hu62
    have hmx : a ≤ (if a < b then b else a) ∧ b ≤ (if a < b then b else a) ∧ ((if a < b then b else a) = a ∨ (if a < b then b else a) = b) := by split <;> omega
    generalize (if a < b then b else a) = m at *
    try simp only [beq_iff_eq, beq_eq_false_iff_ne, ne_eq] at *
    first
      | (exfalso; simp_all; done)
      | (unfold arI
         simp only
         repeat' split
         all_goals first | rfl | omega | (exfalso; omega) | (exfalso; simp only [true_and] at *; omega) | trace_state)
end Go.Proofs.YtgpnpfjbkaehlaaDoor.Wk
namespace Go.Proofs.YtgpnpfjbkaehlaaDoor.Wk
open Go.RowKit Go.Shelf Go.Lib Go.Maps Go.Proofs.YtgpnpfjbkaehlaaDoorW.PrintWords Go.Proofs.YtgpnpfjbkaehlaaDoorW.PrintLast Go.Proofs.YtgpnpfjbkaehlaaDoorW.PrintMore Go.Proofs.YtgpnpfjbkaehlaaDoor.Nt Go.Proofs.YtgpnpfjbkaehlaaDoor.Fm
set_option linter.unusedVariables false
set_option linter.unusedSimpArgs false

/-- What Check comes to. -/
def ChkP (f : List FN) (w : World) (e : Ending) (w' : World) : Prop := e = .returned (.int .i64 (if checkB f then 0 else 30)) ∧ Below w.heap.size w w'
theorem ChkP.no {f : List FN} {w w' : World} (h : checkB f = false) (hb : Below w.heap.size w w') : ChkP f w (.returned (.int .i64 30)) w' := ⟨by rw [h]; rfl, hb⟩
theorem ChkP.yes {f : List FN} {w w' : World} (h : checkB f = true) (hb : Below w.heap.size w w') : ChkP f w (.returned (.int .i64 0)) w' := ⟨by rw [h]; rfl, hb⟩

/-- The marks in an array. -/
def Mark (arr : Array Value) (us : List Int) : Prop := arr.size = 512 ∧ ∀ i : Nat, i < 512 → arr[i]? = some (.bool (decide ((i : Int) ∈ us)))

theorem zero108 : Tryd.zeroCells108 = Array.replicate 512 (.bool false) := by kernel_rfl

theorem mark_nil : Mark Tryd.zeroCells108 [] := by
  rw [zero108]
  refine ⟨by simp, fun i hi => ?_⟩
  rw [Array.getElem?_replicate, if_pos hi]
  simp

theorem mark_set {arr : Array Value} {us : List Int} (h : Mark arr us) (y : Int) (h0 : 0 ≤ y) : Mark (arr.setIfInBounds y.toNat (.bool true)) (us ++ [y]) := by
  refine ⟨by simp [h.1], fun i hi => ?_⟩
  rw [Array.getElem?_setIfInBounds]
  by_cases hy : y.toNat = i
  · rw [if_pos hy, if_pos (by rw [h.1]; omega)]
    have : (i : Int) = y := by omega
    simp [this]
  · rw [if_neg hy, h.2 i hi]
    have : (i : Int) ≠ y := by omega
    simp [this]

set_option maxHeartbeats 4000000 in
set_option maxRecDepth 100000 in
theorem check_in (A : Option Addr) (c : Nat) (f : List FN) (w : World) (hC : k62.C w A f.length f) (hc : f.length ≤ c) (h0 : 0 < f.length) (h1 : f.length ≤ 512) :
    Calls Tryd.prog 28 #[.slice A f.length c] w (ChkP f w) := by
  have hz : ((f.length : Int) == 0) = false := beq_eq_false_iff_ne.2 (by omega)
  have HC := Lib.hid hC
  clear hC
  go_enter Tryd.func28, Tryd.ntmps28
  go_wp2_with fail
  go_loopg [20] f.length (fun kq v20 wr => ∃ k : Nat, v20 = .int .i64 k ∧ Aside0 (k + kq = f.length ∧ Below w.heap.size w wr ∧ ∃ us arr, usedK f k = some us ∧ wr.heap[w.heap.size]? = some (.cells arr 108 (0, 0)) ∧ Mark arr us))
  case atStart => exact ⟨0, rfl, ⟨by omega, below_alloc (Below.refl _ _) _, [], _, rfl, blk_new _ _, mark_nil⟩⟩
  case round =>
    obtain ⟨k, rfl, HA⟩ := hrel
    by_cases hk : k < f.length
    · obtain ⟨n, hn⟩ : ∃ n, f[k]? = some n := ⟨_, List.getElem?_eq_getElem hk⟩
      obtain ⟨ad, rfl, _, c0, c1, c2, c3⟩ := at_node (Kd.C_below HC.out HA.out.2.1) hn
      obtain ⟨us, arr, hus, hba, hma⟩ := HA.out.2.2
      have har := fun w1 => arity_any n (k : Int) w1 (by omega) (by omega)
      have HAR := Lib.hid har
      have HN := Lib.hid hn
      have HUS := Lib.hid hus
      have HBA := Lib.hid hba
      have HMA := Lib.hid hma
      clear har hn hus hba hma
      have hgw : w.heap.size < wr.heap.size := blk_lt HBA.out
      go_wp2_with fail
      refine (HAR.out _).mono ?_
      rintro e w1 ⟨rfl, hb1⟩
      have hbx : Below wr.heap.size wr w1 := (below_alloc (Below.refl _ _) _).trans (hb1.mono (by simp))
      have hk1 := blk_below (blk_new wr _) hb1
      have d2 : w1.cell? ⟨wr.heap.size, 2, none⟩ = some (.int .i64 n.f2) := (blk_cell hk1 2).trans rfl
      have d3 : w1.cell? ⟨wr.heap.size, 3, none⟩ = some (.int .i64 n.f3) := (blk_cell hk1 3).trans rfl
      have HBX := Lib.hid hbx
      have hgw1 : wr.heap.size < w1.heap.size := blk_lt hk1
      clear hb1 hbx hk1
      by_cases hneg : arI n k < 0
      · go_wp2_with fail
        go_ret
        exact .no (check_neg HUS.out HN.out hneg) (HA.out.2.1.trans (HBX.out.mono (by omega)))
      · obtain ⟨h012, hops⟩ := arI_ops hneg
        obtain ⟨q, hq⟩ : ∃ q : Nat, arI n k = (q : Int) := ⟨(arI n k).toNat, by omega⟩
        have hq2 : q ≤ 2 := by omega
        rw [hq, Int.toNat_natCast] at hops
        have hops' : ([n.f2, n.f3].take q).length = q ∧ ∀ j : Nat, j < q → ∃ y, ([n.f2, n.f3].take q)[j]? = some y ∧ (#[(.int .i64 n.f2 : Value), .int .i64 n.f3])[j]? = some (.int .i64 y) ∧ 0 ≤ y ∧ y < k := by
          refine ⟨by simp; omega, fun j hj => ?_⟩
          rcases (by omega : j = 0 ∨ j = 1) with rfl | rfl
          · exact ⟨n.f2, by rw [List.getElem?_take_of_lt hj]; rfl, rfl, hops _ (List.mem_of_getElem? (i := 0) (by rw [List.getElem?_take_of_lt hj]; rfl))⟩
          · exact ⟨n.f3, by rw [List.getElem?_take_of_lt hj]; rfl, rfl, hops _ (List.mem_of_getElem? (i := 1) (by rw [List.getElem?_take_of_lt hj]; rfl))⟩
        have HQ := Lib.hid hq
        have HOPS := Lib.hid hops
        rw [hq]
        clear hneg h012 hops hq
        have HGO := Lib.hid hops'
        have hq2' : (q : Int) ≤ 2 := by omega
        clear hops'
        go_wp2_with fail
        go_loopg [38] q (fun jq v38 w2 => ∃ j : Nat, v38 = .int .i64 j ∧ Aside0 (j + jq = q ∧ Below w.heap.size w w2 ∧ w2.heap[w1.heap.size]? = some (.cells #[.int .i64 n.f2, .int .i64 n.f3] 3 (0, 0)) ∧ ∃ us' arr', markL us' (([n.f2, n.f3].take q).drop j) = markL us ([n.f2, n.f3].take q) ∧ w2.heap[w.heap.size]? = some (.cells arr' 108 (0, 0)) ∧ Mark arr' us'))
        case atStart =>
          refine ⟨0, rfl, by omega, ?_, blk_new _ _, us, arr, rfl, ?_, HMA.out⟩
          · exact below_alloc (HA.out.2.1.trans (HBX.out.mono (by omega))) _
          · exact blk_alloc (blk_below HBA.out HBX.out) _
        case round =>
          obtain ⟨j, rfl, HJ⟩ := hrel
          by_cases hj : j < q
          · obtain ⟨y, hy, hyc, hy0, hyk⟩ := HGO.out.2 j hj
            obtain ⟨hw2, hbo, us', arr', hml, hbu, hmk⟩ := HJ.out.2
            have hdc := (blk_cell hbo j).trans hyc
            have HY := Lib.hid hy
            have HYC := Lib.hid hyc
            have HBO := Lib.hid hbo
            have HML := Lib.hid hml
            have HMK := Lib.hid hmk
            have HW2 := Lib.hid hw2
            clear hy hyc hbo hml hw2
            have hcu : wr.cell? ⟨w.heap.size, y.toNat, none⟩ = some (.bool (decide (y ∈ us'))) := (blk_cell hbu _).trans (by rw [hmk.2 _ (by omega), Int.toNat_of_nonneg hy0])
            have hfu := blk_free hbu y.toNat
            have HBU := Lib.hid hbu
            have hat := markL_at (us := us') HY.out
            rw [HML.out] at hat
            have HAT := Lib.hid hat
            clear hbu hmk hat
            by_cases hyu : y ∈ us'
            · rw [decide_eq_true hyu] at hcu
              go_wp2_with fail
              go_ret
              exact .no (check_dup HUS.out HN.out (by rw [HQ.out, Int.toNat_natCast, HAT.out, if_pos hyu])) HW2.out
            · rw [decide_eq_false hyu] at hcu
              go_wp2_with fail
              go_roundg (gk - 1)
              case measure => have := HJ.out.1; omega
              case rel =>
                refine ⟨j + 1, by go_num, by have := HJ.out.1; omega, HW2.out.setCell (p := ⟨w.heap.size, y.toNat, none⟩) (Nat.le_refl _) _, blk_far HBO.out (by show w1.heap.size ≠ w.heap.size; omega) _, us' ++ [y], _, ?_, blk_set HBU.out _ _, mark_set HMK.out y hy0⟩
                rw [HAT.out, if_neg hyu]
          · have hjq : j = q := by have := HJ.out.1; omega
            subst hjq
            obtain ⟨hw2, hbo, us', arr', hml, hbu, hmk⟩ := HJ.out.2
            rw [List.drop_eq_nil_of_le (by rw [HGO.out.1]; exact Nat.le_refl _), markL] at hml
            have hun := used_step HUS.out HN.out
            rw [HQ.out, if_neg (by omega), Int.toNat_natCast, ← hml] at hun
            have HUN := Lib.hid hun
            have HMK := Lib.hid hmk
            have HW2 := Lib.hid hw2
            have HBU := Lib.hid hbu
            clear hw2 hbo hml hbu hmk hun
            go_wp2_with fail
            go_roundg (f.length - (k + 1))
            case measure => have := HA.out.1; omega
            case rel => exact ⟨k + 1, by go_num, by omega, HW2.out, us', arr', HUN.out, HBU.out, HMK.out⟩
    · have hkf : k = f.length := by have := HA.out.1; omega
      subst hkf
      obtain ⟨us, arr, hus, hba, hma⟩ := HA.out.2.2
      have HUS := Lib.hid hus
      have HBA := Lib.hid hba
      have HMA := Lib.hid hma
      clear hus hba hma
      go_wp2_with fail
      go_loopg [55] (f.length - 1) (fun jq v55 w2 => ∃ j : Nat, v55 = .int .i64 j ∧ Aside0 (j + jq = f.length - 1 ∧ w2 = wr ∧ ∀ i : Nat, i < j → (i : Int) ∈ us))
      case atStart => exact ⟨0, rfl, by omega, rfl, fun i hi => absurd hi (Nat.not_lt_zero _)⟩
      case round =>
        obtain ⟨j, rfl, HJ⟩ := hrel
        by_cases hj : j < f.length - 1
        · have hj' : (j : Int) < f.length - 1 := by omega
          have hcu := (blk_cell HBA.out j).trans (HMA.out.2 j (by omega))
          obtain ⟨_, rfl, hall⟩ := HJ.out
          have HALL := Lib.hid hall
          clear hall
          by_cases hyu : (j : Int) ∈ us
          · rw [decide_eq_true hyu] at hcu
            go_wp2_with fail
            go_roundg (gk - 1)
            case measure => have := HJ.out.1; omega
            case rel =>
              refine ⟨j + 1, by go_num, by have := HJ.out.1; omega, rfl, fun i hi => ?_⟩
              by_cases hij : i = j
              · rw [hij]; exact hyu
              · exact HALL.out i (by omega)
          · rw [decide_eq_false hyu] at hcu
            go_wp2_with fail
            go_ret
            exact .no (check_last HUS.out hj hyu) HA.out.2.1
        · have hjf : j = f.length - 1 := by have := HJ.out.1; omega
          subst hjf
          obtain ⟨_, rfl, hall⟩ := HJ.out
          have HALL := Lib.hid hall
          clear hall
          go_wp2_with fail
          go_ret
          exact .yes (check_yes h0 h1 HUS.out HALL.out) HA.out.2.1

set_option maxRecDepth 100000 in
/-- Check, walked whole. -/
theorem check_any (A : Option Addr) (c : Nat) (f : List FN) (w : World) (hC : k62.C w A f.length f) (hc : f.length ≤ c) :
    Calls Tryd.prog 28 #[.slice A f.length c] w (ChkP f w) := by
  by_cases h0 : f.length = 0
  · have hz : ((f.length : Int) == 0) = true := by rw [h0]; rfl
    go_enter Tryd.func28, Tryd.ntmps28
    go_wp2_with fail
    go_ret
    exact .no (check_out (.inl h0)) (Below.refl _ _)
  · by_cases h1 : f.length ≤ 512
    · exact check_in A c f w hC hc (by omega) h1
    · have hz : ((f.length : Int) == 0) = false := beq_eq_false_iff_ne.2 (by omega)
      have hz2 : (512 : Int) < f.length := by omega
      go_enter Tryd.func28, Tryd.ntmps28
      go_wp2_with fail
      go_ret
      exact .no (check_out (.inr (by omega))) (Below.refl _ _)
end Go.Proofs.YtgpnpfjbkaehlaaDoor.Wk
namespace Go.Proofs.YtgpnpfjbkaehlaaDoor.Wk
open Go.RowKit Go.Shelf Go.Lib Go.Maps Go.Proofs.YtgpnpfjbkaehlaaDoorW.PrintWords Go.Proofs.YtgpnpfjbkaehlaaDoorW.PrintLast Go.Proofs.YtgpnpfjbkaehlaaDoorW.PrintMore Go.Proofs.YtgpnpfjbkaehlaaDoor.Nt Go.Proofs.YtgpnpfjbkaehlaaDoor.Fm
set_option linter.unusedVariables false
set_option linter.unusedSimpArgs false

theorem bd_new (w : World) (v : Value) (hv : v = .slice none 0 0) : Bd (w.alloc (.cells #[.pointer none, v] 104)) w.heap.size w.heap.size [] := by
  subst hv
  refine .inl ⟨Nat.le_refl _, .slice none 0 0, blk_new _ _, ?_, by intro h; cases h⟩
  exact ⟨rfl, .inl ⟨rfl, rfl⟩⟩

/-- What Print comes to. -/
def PrP (ns : List ByteArray) (f : List FN) (w : World) (e : Ending) (w' : World) : Prop :=
  Below w.heap.size w w' ∧ (
    (namesOK (ns.map fun s => s.data.toList) = false ∧ e = .returned (.tuple #[.string ⟨#[]⟩, .int .i64 1])) ∨
    (namesOK (ns.map fun s => s.data.toList) = true ∧ (checkB f = false ∨ badVar f ns.length = true) ∧ e = .returned (.tuple #[.string ⟨#[]⟩, .int .i64 30])) ∨
    (namesOK (ns.map fun s => s.data.toList) = true ∧ checkB f = true ∧ badVar f ns.length = false ∧ ∃ t, Rep f t (f.length - 1) ∧ VarsLt ns.length t ∧ e = .returned (.tuple #[.string ⟨(wr (nzOf ns) 0 t).toArray⟩, .int .i64 0])))

set_option maxHeartbeats 2000000 in
set_option maxRecDepth 100000 in
theorem print_any (An Af : Option Addr) (cn cf : Nat) (ns : List ByteArray) (f : List FN) (w : World) (hCn : Kd.string.C w An ns.length ns) (hcn : ns.length ≤ cn) (hCf : k62.C w Af f.length f) (hcf : f.length ≤ cf)
    (hn : ns.length < 4294967296) (hs : ∀ s ∈ ns, s.size ≤ 9223372036854775807) (hl : ∀ t, Rep f t (f.length - 1) → VarsLt ns.length t → (wr (nzOf ns) 0 t).length ≤ 140737488355328) :
    Calls Tryd.prog 24 #[.slice An ns.length cn, .slice Af f.length cf] w (PrP ns f w) := by
  have hnum := numbers_any An cn ns w hCn hcn hn hs
  have hchk := fun w1 => check_any Af cf f w1
  have HNUM := Lib.hid hnum
  have HCHK := Lib.hid hchk
  have HCN := Lib.hid hCn
  have HCF := Lib.hid hCf
  have HL := Lib.hid hl
  clear hnum hchk hCn hCf hs hl
  go_enter Tryd.func24, Tryd.ntmps24
  go_wp2_with fail
  refine HNUM.out.mono ?_
  rintro e w1 ⟨hb1, ⟨hok, mb, rfl, _, _⟩ | ⟨hok, mv, rfl⟩⟩
  · have HB1 := Lib.hid hb1
    clear hb1
    go_wp2_with fail
    refine (HCHK.out _ (Kd.C_below HCF.out HB1.out) hcf).mono ?_
    rintro e w2 ⟨rfl, hb2⟩
    have HB2 := Lib.hid (HB1.out.trans (hb2.mono HB1.out.size))
    clear hb2
    cases hck : checkB f with
    | false =>
      go_wp2_with fail
      go_ret2
      exact ⟨HB2.out, .inr (.inl ⟨hok, .inl hck, rfl⟩)⟩
    | true =>
      have h0 := (check_parts hck).1
      have h5 := (check_parts hck).2.1
      go_wp2_with fail
      go_loopg [23] f.length (fun kq v23 wr => ∃ k : Nat, v23 = .int .i64 k ∧ Aside0 (k + kq = f.length ∧ Below w.heap.size w wr ∧ ∀ (j : Nat) (x : FN), j < k → f[j]? = some x → ¬ (x.f0 = 2 ∧ (ns.length : Int) ≤ x.f1)))
      case atStart => exact ⟨0, rfl, by omega, HB2.out, fun j x hj => absurd hj (Nat.not_lt_zero _)⟩
      case round =>
        obtain ⟨k, rfl, HA⟩ := hrel
        by_cases hk : k < f.length
        · obtain ⟨x, hx⟩ : ∃ x, f[k]? = some x := ⟨_, List.getElem?_eq_getElem hk⟩
          obtain ⟨ad, rfl, _, c0, c1, c2, c3⟩ := at_node (Kd.C_below HCF.out HA.out.2.1) hx
          have HX := Lib.hid hx
          clear hx
          by_cases h2 : x.f0 = 2
          · have h2' : (x.f0 == 2) = true := beq_iff_eq.2 h2
            by_cases h3 : (ns.length : Int) ≤ x.f1
            · go_wp2_with fail
              go_ret2
              exact ⟨below_alloc HA.out.2.1 _, .inr (.inl ⟨hok, .inr (bad_at HX.out h2 h3), rfl⟩)⟩
            · go_wp2_with fail
              go_roundg (gk - 1)
              case measure => have := HA.out.1; omega
              case rel =>
                refine ⟨k + 1, by go_num, by have := HA.out.1; omega, below_alloc HA.out.2.1 _, fun j y hj hy => ?_⟩
                by_cases hjk : j = k
                · rw [hjk, HX.out] at hy
                  injection hy with hy
                  rw [← hy]
                  exact fun h => by have := h.2; omega
                · exact HA.out.2.2 j y (by omega) hy
          · have h2' : (x.f0 == 2) = false := beq_eq_false_iff_ne.2 h2
            go_wp2_with fail
            go_roundg (gk - 1)
            case measure => have := HA.out.1; omega
            case rel =>
              refine ⟨k + 1, by go_num, by have := HA.out.1; omega, below_alloc HA.out.2.1 _, fun j y hj hy => ?_⟩
              by_cases hjk : j = k
              · rw [hjk, HX.out] at hy
                injection hy with hy
                rw [← hy]
                exact fun h => h2 h.1
              · exact HA.out.2.2 j y (by omega) hy
        · have hkf : k = f.length := by have := HA.out.1; omega
          subst hkf
          have hbad : badVar f ns.length = false := bad_none fun j x hx => HA.out.2.2 j x (List.getElem?_eq_some_iff.1 hx).1 hx
          obtain ⟨t, hrep⟩ := tree_of hck
          have hvl := rep_vars hbad hrep
          have hlen := HL.out t hrep hvl
          have hwr := fun w1 (hb : wr.heap.size ≤ w1.heap.size ∧ Below wr.heap.size wr w1) hbd => write_any ns f t An Af cn cf wr.heap.size wr.heap.size (f.length - 1) 0 [] w w1 HCN.out hcn HCF.out hcf HA.out.2.1.size hb.1 (HA.out.2.1.trans (hb.2.mono HA.out.2.1.size)) hbd (by omega) hn (by rw [List.length_nil]; omega) (by omega) hrep hvl
          have HWR := Lib.hid hwr
          clear hwr
          go_wp2_with fail
          rw [show ((f.length : Int) - 1) = ((f.length - 1 : Nat) : Int) by omega]
          refine (HWR.out _ ⟨by simp, below_alloc (Below.refl _ _) _⟩ (bd_new _ _ rfl)).mono ?_
          rintro e w3 ⟨rfl, hbd, hb3, ho3⟩
          have hz3 : wr.heap.size ≤ w3.heap.size := Nat.le_trans (by simp) hb3.size
          have hst := Tryd.Builder_String_any_k wr.heap.size wr.heap.size _ w3 hbd hz3
          have HST := Lib.hid hst
          have HB3 := Lib.hid hb3
          clear hbd hb3 ho3 hst
          go_wp2_with fail
          refine HST.out.mono ?_
          rintro e w4 ⟨rfl, _, hb4, _⟩
          go_wp2_with fail
          go_ret2
          refine ⟨?_, .inr (.inr ⟨hok, hck, hbad, t, hrep, hvl, rfl⟩)⟩
          exact ((below_alloc HA.out.2.1 _).trans (HB3.out.mono HA.out.2.1.size)).trans (hb4.mono HA.out.2.1.size)
  · go_wp2_with fail
    go_ret2
    exact ⟨hb1, .inl ⟨hok, rfl⟩⟩
end Go.Proofs.YtgpnpfjbkaehlaaDoor.Wk
