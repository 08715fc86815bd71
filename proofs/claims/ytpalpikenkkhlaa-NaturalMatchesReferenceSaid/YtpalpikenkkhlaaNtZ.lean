/- Short names, for long walks. -/
import Derived.Test.YtpalpikenkkhlaaNtA
namespace Go.Proofs.Ytpalpikenkkhlaa.Nt
open Go.RowKit Go.Proofs.YtpalpikenkkhlaaW.PrintWords Go.Proofs.YtpalpikenkkhlaaW.PrintLast Go.Proofs.YtpalpikenkkhlaaW.PrintMore
section
variable {α : Type} {d : Kd α} {e : Nat} {w w1 : World} {base B : Nat} {ok : Nat → Prop} {v : Value} {xs : List α} {A : Option Addr} {n : Nat} {p : Prop}
theorem Ra (h : d.R e w base ok v xs) (o : Obj) : d.R e (w.alloc o) base ok v xs := Kd.R_alloc h o
theorem Rb (h : d.R e w base ok v xs) (m : Nat) : d.R e (w.drewN m) base ok v xs := Kd.R_drewN h m
theorem Rc (h : d.R e w base ok v xs) : d.R e w.drew base ok v xs := Kd.R_drew h
theorem ba (h : Below w.heap.size w w1) (o : Obj) : Below w.heap.size w (w1.alloc o) := below_alloc h o
theorem bn (h : Below B w w1) (m : Nat) : Below B w (w1.drewN m) := pw_below_drewN h m
theorem bd (h : Below B w w1) : Below B w w1.drew := below_drew h
theorem Ca (h : d.C w A n xs) (o : Obj) : d.C (w.alloc o) A n xs := Kd.C_alloc h o
theorem Cb (h : d.C w A n xs) (m : Nat) : d.C (w.drewN m) A n xs := Kd.C_drewN h m
theorem Cc (h : d.C w A n xs) : d.C w.drew A n xs := Kd.C_drew h
theorem As (h : p) : Aside0 p := Aside0.mk h
end
end Go.Proofs.Ytpalpikenkkhlaa.Nt
