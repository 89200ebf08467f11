/- The ways' program keeps the contracts of the eight methods, and the walk of SSSP. Conditions: those of each theorem. -/
import Derived.Test.YtalpjipopipncaaWya
namespace Go.Proofs.Ytalpjipopipncaa
open Go Go.RowKit
section
variable {a : Addr}
theorem m_wys_words (w : World) : (method 291 90 (.pointer (some a)) "Words").run Try.prog w = .ok (123, .pointer (some a)) w := by kernel_rfl
theorem m_wys_both (w : World) : (method 291 90 (.pointer (some a)) "Both").run Try.prog w = .ok (117, .pointer (some a)) w := by kernel_rfl
theorem m_wys_sink (w : World) : (method 291 90 (.pointer (some a)) "Sink").run Try.prog w = .ok (120, .pointer (some a)) w := by kernel_rfl
theorem m_wys_start (w : World) : (method 291 90 (.pointer (some a)) "Start").run Try.prog w = .ok (121, .pointer (some a)) w := by kernel_rfl
theorem m_wys_scatter (w : World) : (method 291 90 (.pointer (some a)) "Scatter").run Try.prog w = .ok (119, .pointer (some a)) w := by kernel_rfl
theorem m_wys_apply (w : World) : (method 291 90 (.pointer (some a)) "Apply").run Try.prog w = .ok (116, .pointer (some a)) w := by kernel_rfl
theorem m_wys_fold (w : World) : (method 291 90 (.pointer (some a)) "Fold").run Try.prog w = .ok (118, .pointer (some a)) w := by kernel_rfl
theorem m_wys_turn (w : World) : (method 291 90 (.pointer (some a)) "Turn").run Try.prog w = .ok (122, .pointer (some a)) w := by kernel_rfl
end

theorem flowAt_ways {n src f q b N : Nat} {W : World} (hf : f = 39 ∨ f = 40) (hn4 : n < 4294967296) (hq : W.heap[q]? = some (.cells (wyC n src f) 93 (0, 0))) (hb : W.heap[b]? = some (.cells #[.iface 90 (.pointer (some ⟨q, 0, none⟩))] 83 (0, 0))) (hqN : q < N) (hN : b < N) :
    FlowAt (.pointer (some ⟨b, 0, none⟩)) (waysP n src f) N W := by
  have key : ∀ w, Below N W w → w.heap[b]? = some (.cells #[.iface 90 (.pointer (some ⟨q, 0, none⟩))] 83 (0, 0)) := fun w hw => by rw [hw.block b hN]; exact hb
  have key2 : ∀ w w1, Below N W w → Ext w w1 → w1.heap[q]? = some (.cells (wyC n src f) 93 (0, 0)) := fun w w1 hw he => he.heap (by rw [hw.block q hqN]; exact hq)
  refine ⟨fun w hw => ?_, fun w hw => ?_, fun w hw => ?_, fun w hw v x y h0 h1 => ?_, fun w hw c s x back _ h0 h1 => ?_, fun w hw c g s v hct h0 h1 => ?_, fun w hw c g s v _ h0 h1 => ?_, fun w hw c g ch r _ => ?_⟩
  · exact flow_words m_wys_words (fun _ _ => by kernel_rfl) w (fun w1 _ => ways_words _ w1) (key w hw)
  · exact flow_both m_wys_both (fun _ _ => by kernel_rfl) w (fun w1 _ => ways_both _ w1) (key w hw)
  · exact flow_sink rfl (by simp [Value.oneCell']) m_wys_sink (fun _ _ => by kernel_rfl) w (fun w1 _ => ways_sink _ w1) (key w hw)
  · exact flow_start m_wys_start (fun _ _ => by kernel_rfl) w v x y (fun w1 he => ways_start v x y w1 (key2 w w1 hw he)) (key w hw)
  · exact flow_scatter m_wys_scatter (fun _ _ => by kernel_rfl) w (fun w1 he => ways_scatter hf c s x back w1 (key2 w w1 hw he)) (key w hw)
  · exact flow_apply m_wys_apply (fun _ _ => by kernel_rfl) w (fun w1 he => ways_apply c g s v hct w1) (key w hw)
  · exact flow_fold m_wys_fold (fun _ _ => by kernel_rfl) w (fun w1 _ => ways_fold _ c g s v w1) (key w hw)
  · exact flow_turn m_wys_turn (fun _ _ => by kernel_rfl) w (fun w1 he => ways_turn hn4 c g ch r w1 (key2 w w1 hw he)) (key w hw)

theorem sinkOK_ways (n src f : Nat) : SinkOK (waysP n src f) := ⟨fun s y w => mon_3_3 s y w, fun s y w => mon_0_0 s y w⟩
theorem sane_ways (n src f : Nat) : Sane (waysP n src f) := .inr (.inr ⟨rfl, rfl, rfl, rfl, rfl⟩)

@[go_sem] theorem run_store_fn {P : Program} {w : World} {a : Addr} {m : Mode} (fn : Fn) (first captured : Array Value) : (store a (.func fn first captured) m).run P w = stored P w a (.func fn first captured) m := run_store P w a _ m rfl
/-- By the edges' kind: which weight. -/
def kindF (k : Nat) : Nat := if k = 1 then 40 else 39
theorem kindF_or (k : Nat) : kindF k = 39 ∨ kindF k = 40 := by unfold kindF; split <;> simp
set_option maxHeartbeats 1000000 in
/-- flows.SSSP over a size that it takes. -/
theorem sssp_any (n s k : Nat) (hn1 : 1 ≤ n) (hn : n ≤ 2147483647) (hs : s < n) (hk : k = 1 ∨ k = 2) (w : World) : Calls Try.prog 20 #[.int .u32 n, .int .u32 s, .int .i64 k] w fun e w' =>
    e = .returned (.tuple #[.pointer (some ⟨w.heap.size + 1, 0, none⟩), .int .i64 0]) ∧ Ext w w' ∧ w'.heap.size = w.heap.size + 2 ∧ w'.heap[w.heap.size]? = some (.cells (wyC n s (kindF k)) 93 (0, 0)) ∧ w'.heap[w.heap.size + 1]? = some (.cells #[.iface 90 (.pointer (some ⟨w.heap.size, 0, none⟩))] 83 (0, 0)) := by
  have h1 : (1 : Int) ≤ (n : Int) := by omega
  have h2 : (n : Int) ≤ 2147483647 := by omega
  have h3 : (s : Int) < (n : Int) := by omega
  rcases hk with rfl | rfl
  all_goals
    go_enter Try.func20, Try.ntmps20
    go_wp2
    go_ret2
    refine ⟨rfl, ((Keep.refl [] w).alloc _).alloc _, by simp, ?_, ?_⟩
    · rw [heap_alloc2_old]; rfl
    · rw [heap_alloc2_new]
end Go.Proofs.Ytalpjipopipncaa
