/- The walks of the labels' methods. Conditions: none but what each theorem states. -/
import Derived.Test.YtalpjipopipncaaDat
import Derived.WalkSpells
import Derived.WalkLawsBesides
import Derived.Deep.QuietTactic
import Derived.BigQuiet
namespace Go.Proofs.Ytalpjipopipncaa
open Go Go.RowKit

set_option maxHeartbeats 400000 in
theorem labels_words (w : World) : Calls Try.prog 115 #[.agg #[]] w fun e w' => e = .returned (.int .i64 3) ∧ Ext w w' := by
  go_enter Try.func115, Try.ntmps115
  go_wp2
  go_ret
  exact ⟨rfl, Ext.alloc _ _⟩

set_option maxHeartbeats 400000 in
theorem labels_both (w : World) : Calls Try.prog 110 #[.agg #[]] w fun e w' => e = .returned (.bool true) ∧ Ext w w' := by
  go_enter Try.func110, Try.ntmps110
  go_wp2
  go_ret
  exact ⟨rfl, Ext.alloc _ _⟩

set_option maxHeartbeats 400000 in
theorem labels_sink (w : World) : Calls Try.prog 113 #[.agg #[]] w fun e w' => e = .returned (.agg #[.int .i64 1, .int .i64 1, .int .i64 0, .int .i64 0]) ∧ Ext w w' := by
  go_enter Try.func113, Try.ntmps113
  go_wp2
  refine bodyPost_ret (v := .agg #[.int .i64 1, .int .i64 1, .int .i64 0, .int .i64 0]) (by simp [results, Try.results113, go_sem]) rfl ⟨rfl, ?_⟩
  exact ((Keep.refl [] w).alloc _).alloc _

set_option maxHeartbeats 400000 in
theorem labels_start (v x y : Int) (w : World) (h0 : 0 ≤ v) (h1 : v < 4294967296) : Calls Try.prog 114 #[.agg #[], .int .u32 v, .agg #[.int .u64 x, .int .u64 y]] w fun e w' => e = .returned (.tuple #[.agg (stC (labelsP.start v)), .int .i64 0]) ∧ Ext w w' := by
  go_enter Try.func114, Try.ntmps114
  go_wp2
  refine bodyPost_ret (v := .tuple #[.agg (stC (labelsP.start v)), .int .i64 0]) (by simp [results, Try.results114, go_sem, stC, labelsP, U64]) rfl ⟨rfl, ?_⟩
  exact (((Keep.refl [] w).alloc _).alloc _).alloc _

set_option maxHeartbeats 400000 in
theorem labels_scatter (c s : St) (x : Edg) (back : Bool) (w : World) : Calls Try.prog 112 #[.agg #[], .agg (ctC c), .agg (stC s), .agg (edC x), .bool back] w fun e w' =>
    e = .returned (.tuple #[.int .u64 (s 0), .int .u64 0, .bool (s 2 == 1), .int .i64 0]) ∧ Ext w w' := by
  unfold ctC stC edC
  go_enter Try.func112, Try.ntmps112
  go_wp2
  go_quiet (fail)
  go_wp2
  refine bodyPost_ret (results_tmp4 rfl _ _ _) rfl ⟨rfl, ?_⟩
  exact (((((Keep.refl [] w).alloc _).alloc _).alloc _).alloc _).drewN _

set_option maxHeartbeats 400000 in
theorem labels_apply (c g s : St) (v : Int) (w : World) : Calls Try.prog 109 #[.agg #[], .agg (ctC c), .agg (stC g), .int .u32 v, .agg (stC s)] w fun e w' =>
    e = .returned (.tuple #[.agg (stC (labelsP.apply c g v s).1), .bool (labelsP.apply c g v s).2, .int .i64 0]) ∧ Ext w w' := by
  unfold ctC stC
  go_enter Try.func109, Try.ntmps109
  go_wp2
  all_goals
    have hh : (s 1 < s 0) = True ∨ (s 1 < s 0) = False := by by_cases h : s 1 < s 0 <;> simp [h]
    refine bodyPost_ret (v := .tuple #[.agg (stC (labelsP.apply c g v s).1), .bool (labelsP.apply c g v s).2, .int .i64 0]) (by rcases hh with hh | hh <;> first | (simp [results, Try.results109, go_sem, stC, labelsP, U64, hh]; done) | (exfalso; simp at hh; omega)) rfl ⟨rfl, ?_⟩
    exact (((((Keep.refl [] w).alloc _).alloc _).alloc _).alloc _).alloc _

set_option maxHeartbeats 400000 in
theorem labels_fold (c g s : St) (v : Int) (w : World) (h0 : 0 ≤ v) (h1 : v < 4294967296) : Calls Try.prog 111 #[.agg #[], .agg (ctC c), .agg (stC g), .int .u32 v, .agg (stC s)] w fun e w' =>
    e = .returned (.tuple #[.agg (stC (labelsP.fold c g v s)), .int .i64 0]) ∧ Ext w w' := by
  unfold ctC stC
  go_enter Try.func111, Try.ntmps111
  go_wp2
  all_goals
    have hh : s 0 = v ∨ ¬ s 0 = v := by omega
    refine bodyPost_ret (v := .tuple #[.agg (stC (labelsP.fold c g v s)), .int .i64 0]) (by rcases hh with hh | hh <;> first | (simp [results, Try.results111, go_sem, stC, labelsP, upd, u64p, hh]; done) | (exfalso; simp_all; done)) rfl ⟨rfl, ?_⟩
    exact (((((Keep.refl [] w).alloc _).alloc _).alloc _).alloc _).alloc _

set_option maxHeartbeats 400000 in
theorem level_turn (c g : St) (ch r : Int) (w : World) : Calls Try.prog 108 #[.agg #[], .agg (ctC c), .agg (stC g), .int .u64 ch, .int .i64 r] w fun e w' =>
    e = .returned (.tuple #[.agg (ctC (upd c 0 (u64p (c 0)))), .bool (ch == 0), .int .i64 0]) ∧ Ext w w' := by
  unfold ctC stC
  go_enter Try.func108, Try.ntmps108
  go_wp2
  all_goals
    refine bodyPost_ret (v := .tuple #[.agg (ctC (upd c 0 (u64p (c 0)))), .bool (ch == 0), .int .i64 0]) (by simp [results, Try.results108, go_sem, ctC, upd, u64p, *]) rfl ⟨rfl, ?_⟩
    exact ((((Keep.refl [] w).alloc _).alloc _).alloc _).alloc _

theorem flow_none {b : Nat} {v : Value} (t : TypeId) (w : World) (hb : w.heap[b]? = some (.cells #[.iface t v] 83 (0, 0))) : Calls Try.prog 37 #[.pointer (some ⟨b, 0, none⟩)] w fun e w' => e = .returned (.bool false) ∧ w = w' := by
  have hc : w.cell? ⟨b, 0, none⟩ = some (.iface t v) := cell_of_row w b 0 _ _ _ hb
  clear hb
  go_enter Try.func37, Try.ntmps37
  go_wp2
  go_ret
  exact ⟨rfl, rfl⟩
end Go.Proofs.Ytalpjipopipncaa
