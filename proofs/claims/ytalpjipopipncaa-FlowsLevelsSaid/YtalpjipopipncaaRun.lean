/- A run in memory: fifteen cells. Conditions: none. -/
import Derived.Test.YtalpjipopipncaaDat
namespace Go.Proofs.Ytalpjipopipncaa
open Go Go.RowKit

/-- A run's fifteen cells: the states' slice, the aggregate, the ctl, the rounds, the updates. -/
def runC (sv : Value) (agg ctl : St) (rounds up : Int) : Array Value :=
  #[sv, .int .u64 (agg 0), .int .u64 (agg 1), .int .u64 (agg 2), .int .u64 (agg 3), .int .u64 (agg 4), .int .u64 (agg 5), .int .u64 (agg 6), .int .u64 (agg 7),
    .int .u64 (ctl 0), .int .u64 (ctl 1), .int .u64 (ctl 2), .int .u64 (ctl 3), .int .i64 rounds, .int .u64 up]
def RunAt (w : World) (b : Nat) (sv : Value) (agg ctl : St) (rounds up : Int) : Prop := w.heap[b]? = some (.cells (runC sv agg ctl rounds up) 39 (0, 0))
section
variable {w w' : World} {b : Nat} {sv : Value} {agg ctl : St} {rounds up : Int}
theorem RunAt.lt (h : RunAt w b sv agg ctl rounds up) : b < w.heap.size := (Array.getElem?_eq_some_iff.1 h).1
theorem RunAt.keep {S : List Nat} (h : RunAt w b sv agg ctl rounds up) (hk : Keep S w w') (hn : b ∉ S) : RunAt w' b sv agg ctl rounds up := hk.heap h hn
theorem RunAt.ext (h : RunAt w b sv agg ctl rounds up) (hk : Ext w w') : RunAt w' b sv agg ctl rounds up := hk.heap h
theorem RunAt.frozen (h : RunAt w b sv agg ctl rounds up) (j : Nat) : w.frozen? ⟨b, j, none⟩ = false := frozen_of_row w b j _ _ h
theorem RunAt.c0 (h : RunAt w b sv agg ctl rounds up) : w.cell? ⟨b, 0, none⟩ = some sv := cell_of_row w b 0 _ _ _ h
theorem RunAt.c13 (h : RunAt w b sv agg ctl rounds up) : w.cell? ⟨b, 13, none⟩ = some (.int .i64 rounds) := cell_of_row w b 13 _ _ _ h
theorem RunAt.c14 (h : RunAt w b sv agg ctl rounds up) : w.cell? ⟨b, 14, none⟩ = some (.int .u64 up) := cell_of_row w b 14 _ _ _ h
theorem RunAt.aggAt (h : RunAt w b sv agg ctl rounds up) : At w b 1 (stC agg) := ⟨_, _, h, by simp [runC, stC], fun j hj => by
  have hj' : j < 8 := hj
  rcases j with _ | _ | _ | _ | _ | _ | _ | _ | j <;> first | rfl | omega⟩
theorem RunAt.ctlAt (h : RunAt w b sv agg ctl rounds up) : At w b 9 (ctC ctl) := ⟨_, _, h, by simp [runC, ctC], fun j hj => by
  have hj' : j < 4 := hj
  rcases j with _ | _ | _ | _ | j <;> first | rfl | omega⟩
theorem RunAt.whole (h : RunAt w b sv agg ctl rounds up) : At w b 0 (runC sv agg ctl rounds up) := At.whole h
theorem RunAt.put_agg (h : RunAt w b sv agg ctl rounds up) (x : St) : RunAt (wput w b 1 (stC x)) b sv x ctl rounds up := by
  unfold RunAt; rw [wput_heap h]; simp [runC, spl, stC]
theorem RunAt.put_ctl (h : RunAt w b sv agg ctl rounds up) (x : St) : RunAt (wput w b 9 (ctC x)) b sv agg x rounds up := by
  unfold RunAt; rw [wput_heap h]; simp [runC, spl, ctC]
theorem RunAt.set0 (h : RunAt w b sv agg ctl rounds up) (x : Value) : RunAt (w.setCell ⟨b, 0, none⟩ x) b x agg ctl rounds up := by
  unfold RunAt; rw [heap_setCell_same w b 0 _ _ _ h]; simp [runC]
theorem RunAt.set13 (h : RunAt w b sv agg ctl rounds up) (x : Int) : RunAt (w.setCell ⟨b, 13, none⟩ (.int .i64 x)) b sv agg ctl x up := by
  unfold RunAt; rw [heap_setCell_same w b 13 _ _ _ h]; simp [runC]
theorem RunAt.set14 (h : RunAt w b sv agg ctl rounds up) (x : Int) : RunAt (w.setCell ⟨b, 14, none⟩ (.int .u64 x)) b sv agg ctl rounds x := by
  unfold RunAt; rw [heap_setCell_same w b 14 _ _ _ h]; simp [runC]
end
theorem runC_size (sv : Value) (agg ctl : St) (rounds up : Int) : (runC sv agg ctl rounds up).size = 15 := rfl

/-- What a sink's two monoids make of a state. -/
structure SinkOK (G : Prg) : Prop where
  a : ∀ (s : St) (y : Int) (w : World), Calls Try.prog 59 #[.int .i64 G.ma, .agg (stC s), .int .i64 G.a, .int .u64 y] w fun e w' => e = .returned (.agg (stC (monS G.ma s G.a y))) ∧ Ext w w'
  b : ∀ (s : St) (y : Int) (w : World), Calls Try.prog 59 #[.int .i64 G.mb, .agg (stC s), .int .i64 G.b, .int .u64 y] w fun e w' => e = .returned (.agg (stC s)) ∧ Ext w w'


def zeroS : St := fun _ => 0
theorem fOpE_alloc35 {ops : Array Oper} {i : Nat} {o : Oper} {a : Act} {w : World} {K : Act → World → Prop} (ho : ops[i]? = some o) (hg : o.guard = none) (hop : o.op = .alloc 35)
    (h : ∀ w', Ext w w' → K (a.put o.dst (.pointer (some ⟨w'.heap.size, 0, none⟩))) (w'.alloc (.cells (stC zeroS) 35))) : fOpE Try.prog ops i K a w := by
  refine ⟨o, ho, hg, fun w' hw' => ⟨_, _, ?_, Ext.alloc _ _, h w' hw'⟩⟩
  obtain ⟨dst, op, ty, pos, after, guard⟩ := o
  simp only at hop
  subst hop
  simp [go_sem, stC, zeroS]
theorem fOpE_alloc37 {ops : Array Oper} {i : Nat} {o : Oper} {a : Act} {w : World} {K : Act → World → Prop} (ho : ops[i]? = some o) (hg : o.guard = none) (hop : o.op = .alloc 37)
    (h : ∀ w', Ext w w' → K (a.put o.dst (.pointer (some ⟨w'.heap.size, 0, none⟩))) (w'.alloc (.cells (ctC zeroS) 37))) : fOpE Try.prog ops i K a w := by
  refine ⟨o, ho, hg, fun w' hw' => ⟨_, _, ?_, Ext.alloc _ _, h w' hw'⟩⟩
  obtain ⟨dst, op, ty, pos, after, guard⟩ := o
  simp only at hop
  subst hop
  simp [go_sem, ctC, zeroS]

/-- The aggregate of the first k states. -/
def foldT (G : Prg) (ctl : St) (S : List St) : Nat → St
  | 0 => zeroS
  | k + 1 => G.fold ctl (foldT G ctl S k) k (S.getD k zeroS)

end Go.Proofs.Ytalpjipopipncaa
