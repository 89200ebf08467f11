/- The walks of the ways' methods. Conditions: none but what each theorem states. -/
import Derived.Test.YtalpjipopipncaaPlb
import Derived.Deep.DeepCutAuto
namespace Go.Proofs.Ytalpjipopipncaa
open Go Go.RowKit

def ENDL : Int := 9223372036854775807
/-- The weight of an edge: by which function (40: plain, else counted). -/
def wtI (f : Nat) (w : Nat) : Int := if f = 40 then 1 else wrap64 (wrap32 w)
def addI (a b : Int) : Int × Int := if (0 ≤ a ↔ 0 ≤ b) ∧ ¬ (0 ≤ wrap64 (a + b) ↔ 0 ≤ b) then (0, 13) else (wrap64 (a + b), 0)

set_option maxHeartbeats 1000000 in
theorem plain_any (w : Nat) (W : World) : Calls Try.prog 40 #[.int .u32 w] W fun e W' => e = .returned (.int .i64 (wtI 40 w)) ∧ W' = W := by
  go_enter Try.func40, Try.ntmps40
  go_wp2
  go_ret
  exact ⟨rfl, rfl⟩
set_option maxHeartbeats 1000000 in
theorem counted_any (w : Nat) (W : World) : Calls Try.prog 39 #[.int .u32 w] W fun e W' => e = .returned (.int .i64 (wtI 39 w)) ∧ W' = W := by
  go_enter Try.func39, Try.ntmps39
  go_wp2
  go_ret
  have e : wtI 39 w = wrap64 (wrap32 w) := if_neg (by decide)
  rw [e]
  exact ⟨rfl, rfl⟩
set_option maxHeartbeats 1000000 in
theorem add_any (a b : Int) (W : World) : Calls Try.prog 126 #[.int .i64 a, .int .i64 b] W fun e W' => e = .returned (.tuple #[.int .i64 (addI a b).1, .int .i64 (addI a b).2]) ∧ W' = W := by
  go_enter Try.func126, Try.ntmps126
  go_wp2
  · rename_i h1 h2
    have e : addI a b = (0, 13) := if_pos ⟨h1, fun h => by simp [h] at h2⟩
    rw [e]
    go_ret2
    exact ⟨rfl, rfl⟩
  · rename_i h1 h2
    have e : addI a b = (wrap64 (a + b), 0) := if_neg (fun h => h.2 (by simpa using h2))
    rw [e]
    go_ret2
    exact ⟨rfl, rfl⟩
  · rename_i h1
    have e : addI a b = (wrap64 (a + b), 0) := if_neg (fun h => h1 h.1)
    rw [e]
    go_ret2
    exact ⟨rfl, rfl⟩

/-- The ways' cells: n, the source, the weight. -/
def wyC (n src f : Nat) : Array Value := #[.int .u32 n, .int .u32 src, .func (.func f) #[] #[]]
def waysP (n src f : Nat) : Prg where
  words := 4
  both := false
  a := 3
  ma := 3
  b := 0
  mb := 0
  start v := fun i => if i = 0 then (if v = (src : Int) then 0 else ENDL) else if i = 3 then ENDL else 0
  scatter c s x back := if back = true ∨ c 1 ≠ 0 ∨ s 0 = ENDL ∨ s 2 ≠ c 0 then (0, 0, false, 0) else
    if (addI (wrap64 (s 0)) (wtI f x.w)).2 ≠ 0 then (0, 0, false, (addI (wrap64 (s 0)) (wtI f x.w)).2) else (IntKind.u64.wrap (addI (wrap64 (s 0)) (wtI f x.w)).1, 0, true, 0)
  apply c _ _ s := if c 1 = 0 then (if wrap64 (s 0) ≤ wrap64 (s 3) then (upd s 3 ENDL, false) else (upd (upd (upd s 0 (s 3)) 2 (u64p (c 0))) 3 ENDL, true)) else (upd (upd s 1 1) 3 ENDL, true)
  fold _ g _ s := let g1 := if s 0 = ENDL then g else upd g 0 (u64p (g 0)); if s 1 = 1 then upd g1 1 1 else g1
  turn c _ ch _ := let c1 := upd c 0 (u64p (c 0)); (if ¬ (ch = 0 ∨ c 1 ≠ 0) ∧ (n : Int) ≤ u64p (c 0) then upd c1 1 1 else c1, decide (ch = 0 ∨ c 1 ≠ 0))

section
variable {n src f b : Nat}
set_option maxHeartbeats 400000 in
theorem ways_words (v : Value) (w : World) : Calls Try.prog 123 #[v] w fun e w' => e = .returned (.int .i64 4) ∧ Ext w w' := by
  go_enter Try.func123, Try.ntmps123
  go_wp2
  go_ret
  exact ⟨rfl, Ext.refl _⟩
set_option maxHeartbeats 400000 in
theorem ways_both (v : Value) (w : World) : Calls Try.prog 117 #[v] w fun e w' => e = .returned (.bool false) ∧ Ext w w' := by
  go_enter Try.func117, Try.ntmps117
  go_wp2
  go_ret
  exact ⟨rfl, Ext.refl _⟩
set_option maxHeartbeats 400000 in
theorem ways_sink (v : Value) (w : World) : Calls Try.prog 120 #[v] w fun e w' => e = .returned (.agg #[.int .i64 3, .int .i64 3, .int .i64 0, .int .i64 0]) ∧ Ext w w' := by
  go_enter Try.func120, Try.ntmps120
  go_wp2
  refine bodyPost_ret (v := .agg #[.int .i64 3, .int .i64 3, .int .i64 0, .int .i64 0]) (by simp [results, Try.results120, go_sem]) rfl ⟨rfl, ?_⟩
  exact Ext.alloc _ _
set_option maxHeartbeats 400000 in
theorem ways_start (v x y : Int) (w : World) (hb : w.heap[b]? = some (.cells (wyC n src f) 93 (0, 0))) : Calls Try.prog 121 #[.pointer (some ⟨b, 0, none⟩), .int .u32 v, .agg #[.int .u64 x, .int .u64 y]] w fun e w' => e = .returned (.tuple #[.agg (stC ((waysP n src f).start v)), .int .i64 0]) ∧ Ext w w' := by
  have hc : w.cell? ⟨b, 1, none⟩ = some (.int .u32 src) := cell_of_row w b 1 _ _ _ hb
  have hl := (Array.getElem?_eq_some_iff.1 hb).1
  clear hb
  go_enter Try.func121, Try.ntmps121
  go_wp2
  all_goals
    have hh : v = (src : Int) ∨ ¬ v = (src : Int) := by omega
    refine bodyPost_ret (v := .tuple #[.agg (stC ((waysP n src f).start v)), .int .i64 0]) (by rcases hh with hh | hh <;> first | (simp [results, Try.results121, go_sem, stC, waysP, ENDL, hh]; done) | (exfalso; simp_all; done)) rfl ⟨rfl, ?_⟩
    exact ((Keep.refl [] w).alloc _).alloc _
set_option maxHeartbeats 400000 in
theorem ways_fold (r : Value) (c g s : St) (v : Int) (w : World) : Calls Try.prog 118 #[r, .agg (ctC c), .agg (stC g), .int .u32 v, .agg (stC s)] w fun e w' =>
    e = .returned (.tuple #[.agg (stC ((waysP n src f).fold c g v s)), .int .i64 0]) ∧ Ext w w' := by
  unfold ctC stC
  go_enter Try.func118, Try.ntmps118
  go_wp2
  all_goals
    have h0 : s 0 = 9223372036854775807 ∨ ¬ s 0 = 9223372036854775807 := by omega
    have h1 : s 1 = 1 ∨ ¬ s 1 = 1 := by omega
    refine bodyPost_ret (v := .tuple #[.agg (stC ((waysP n src f).fold c g v s)), .int .i64 0]) (by rcases h0 with h0 | h0 <;> rcases h1 with h1 | h1 <;> first | (simp [results, Try.results118, go_sem, stC, waysP, ENDL, upd, u64p, h0, h1]; done) | (exfalso; simp_all; done)) rfl ⟨rfl, ?_⟩
    exact (((((Keep.refl [] w).alloc _).alloc _).alloc _).alloc _)
end
end Go.Proofs.Ytalpjipopipncaa
