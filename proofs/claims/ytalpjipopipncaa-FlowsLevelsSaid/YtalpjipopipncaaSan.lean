/- The program that is played is sane. Conditions: those of sane_any. -/
import Derived.Test.YtalpjipopipncaaRnd
namespace Go.Proofs.Ytalpjipopipncaa
open Go Go.RowKit

/-- The three sets of numbers that the given programs have. -/
def Sane (G : Prg) : Prop := (G.words = 3 ∧ G.a = 1 ∧ G.ma = 1 ∧ G.b = 0 ∧ G.mb = 0) ∨ (G.words = 3 ∧ G.a = 2 ∧ G.ma = 1 ∧ G.b = 0 ∧ G.mb = 0) ∨ (G.words = 4 ∧ G.a = 3 ∧ G.ma = 3 ∧ G.b = 0 ∧ G.mb = 0)

set_option maxHeartbeats 2000000 in
theorem sane_any {p : Value} {G : Prg} {N : Nat} {W0 : World} (hF : FlowAt p G N W0) (hG : Sane G) {w : World} (hw : Below N W0 w) (hN : N ≤ w.heap.size) :
    Calls Try.prog 33 #[p] w fun e w' => e = .returned (.bool true) ∧ Ext w w' := by
  have hW := hF.words
  have hS := hF.sink
  have HW := Lib.hid hw
  rcases hG with ⟨e1, e2, e3, e4, e5⟩ | ⟨e1, e2, e3, e4, e5⟩ | ⟨e1, e2, e3, e4, e5⟩
  all_goals
    rw [e1] at hW
    rw [e2, e3, e4, e5] at hS
    have HWo := Lib.hid hW
    have HSi := Lib.hid hS
    clear hW hS hw hF e1 e2 e3 e4 e5
    go_enter Try.func33, Try.ntmps33
    go_wp2_with (first | (go_at_call 44; refine (HWo.out _ HW.out).mono ?_; rintro e w1 ⟨rfl, h1⟩; have H1 := Lib.hid h1; clear h1) | (go_at_call 45; refine (HSi.out _ (HW.out.trans (H1.out.below.mono hN))).mono ?_; rintro e w2 ⟨rfl, h2⟩; have H2 := Lib.hid h2; clear h2))
    go_ret
    exact ⟨rfl, Ext.trans (Ext.trans H1.out H2.out) (Ext.alloc _ _)⟩
end Go.Proofs.Ytalpjipopipncaa
