/- The head of a region that draws its order, walked in the order of the text: the words for the walk's own simp. Conditions: none. -/
import Derived.Test.YtalpjipopipncaaReg
import Derived.Lib.Hide
namespace Go.Proofs.Ytalpjipopipncaa
open Go Go.RowKit

/-- A world that goes on from W. -/
def Nx (W : World) : Type := { w' : World // Ext W w' }
instance (W : World) : Nonempty (Nx W) := ⟨⟨W, Ext.refl W⟩⟩
def nx (W : World) (x : Nx W) : World := x.1
theorem nx_ext (W : World) (x : Nx W) : Ext W (nx W x) := x.2
def Nx.mk {W w : World} (h : Ext W w) : Nx W := ⟨w, h⟩
theorem nx_mk {W w : World} (h : Ext W w) : nx W (Nx.mk h) = w := rfl

@[go_sem] theorem cell_nx {W : World} {x : Nx W} {b o : Nat} {s : Option Nat} (h : b < W.heap.size) : (nx W x).cell? ⟨b, o, s⟩ = W.cell? ⟨b, o, s⟩ :=
  World.cell?_of_block (w := W) (Ext.block (nx_ext W x) h)
@[go_sem] theorem frozen_nx {W : World} {x : Nx W} {b o : Nat} {s : Option Nat} (h : b < W.heap.size) : (nx W x).frozen? ⟨b, o, s⟩ = W.frozen? ⟨b, o, s⟩ :=
  World.frozen?_of_block (w := W) (Ext.block (nx_ext W x) h)

@[go_sem] theorem cell_nx_drew {W : World} {x : Nx W.drew} {b o : Nat} {s : Option Nat} (h : b < W.heap.size) : (nx W.drew x).cell? ⟨b, o, s⟩ = W.cell? ⟨b, o, s⟩ :=
  World.cell?_of_block (w := W) (Ext.block (nx_ext W.drew x) h)
@[go_sem] theorem frozen_nx_drew {W : World} {x : Nx W.drew} {b o : Nat} {s : Option Nat} (h : b < W.heap.size) : (nx W.drew x).frozen? ⟨b, o, s⟩ = W.frozen? ⟨b, o, s⟩ :=
  World.frozen?_of_block (w := W) (Ext.block (nx_ext W.drew x) h)


section
variable {P : Program} {ops : Array Oper} {w : World} {Q : Act → Prop} {a : Act} {o : Oper} {rest : List Oper}

theorem wpHead_step (h : ∀ K : Act → Prop, (∀ a, wpHead P ops w Q rest a → K a) → if Region.wanted o (yielded ops a.tmps) then ∃ v, (∀ x : Nx w, qAt P o a (nx w x) v) ∧ K (a.put o.dst v) else K (a.put o.dst undef)) :
    wpHead P ops w Q (o :: rest) a := by
  have h1 := h _ (fun _ h => h)
  unfold wpHead
  split
  · rename_i hw
    rw [if_pos hw] at h1
    obtain ⟨v, h2, h3⟩ := h1
    exact ⟨v, fun w' hw' => h2 (Nx.mk hw'), h3⟩
  · rename_i hw
    rw [if_neg hw] at h1
    exact h1
theorem nOnly_mk {Q : Exit → Act → World → Prop} {a : Act} {w : World} (h : Q .normal a w) : nOnly Q .normal a w := h
theorem wpHead_nil (h : Q a) : wpHead P ops w Q [] a := h

@[go_sem] theorem qUpon_value (v u : Value) (w : World) : qUpon P w v (.ok (.value u) w) = (u = v) := by simp [qUpon, Ext.refl]
@[go_sem] theorem qUpon_skip (v : Value) (w : World) : qUpon P w v (.ok .skip w) = (undef = v) := by
  simp only [qUpon, Ext.refl, and_true, eq_iff_iff]; exact eq_comm
@[go_sem] theorem qUpon_enter (v : Value) (f : FuncId) (args : Array Value) (w : World) : qUpon P w v (.ok (.enter f args) w) = Calls P f args w (fun e w'' => e = .returned v ∧ Ext w w'') := by simp [qUpon]
attribute [go_sem] qAt

theorem wpPure_step {Q : Act → Prop} {a : Act} {o : Oper} {rest : List Oper} (hg : o.guard = none) (v : Value) (h : ∀ w, (execOp a.eval o).run P w = .ok (.value v) w) (hk : wpPure P ops Q rest (a.put o.dst v)) : wpPure P ops Q (o :: rest) a :=
  ⟨v, .inl ⟨by simp [Region.wanted, hg], h⟩, hk⟩
theorem wpPure_nil {Q : Act → Prop} {a : Act} (h : Q a) : wpPure P ops Q [] a := h
end
end Go.Proofs.Ytalpjipopipncaa
