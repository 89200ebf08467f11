/- The labels' program keeps the contracts of the eight methods, and the walk of WCC. Conditions: those of each theorem. -/
import Derived.Test.YtalpjipopipncaaPly
namespace Go.Proofs.Ytalpjipopipncaa
open Go Go.RowKit

theorem m_lab_words (w : World) : (method 291 79 (.agg #[]) "Words").run Try.prog w = .ok (115, .agg #[]) w := by kernel_rfl
theorem m_lab_both (w : World) : (method 291 79 (.agg #[]) "Both").run Try.prog w = .ok (110, .agg #[]) w := by kernel_rfl
theorem m_lab_sink (w : World) : (method 291 79 (.agg #[]) "Sink").run Try.prog w = .ok (113, .agg #[]) w := by kernel_rfl
theorem m_lab_start (w : World) : (method 291 79 (.agg #[]) "Start").run Try.prog w = .ok (114, .agg #[]) w := by kernel_rfl
theorem m_lab_scatter (w : World) : (method 291 79 (.agg #[]) "Scatter").run Try.prog w = .ok (112, .agg #[]) w := by kernel_rfl
theorem m_lab_apply (w : World) : (method 291 79 (.agg #[]) "Apply").run Try.prog w = .ok (109, .agg #[]) w := by kernel_rfl
theorem m_lab_fold (w : World) : (method 291 79 (.agg #[]) "Fold").run Try.prog w = .ok (111, .agg #[]) w := by kernel_rfl
theorem m_lab_turn (w : World) : (method 291 79 (.agg #[]) "Turn").run Try.prog w = .ok (108, .agg #[]) w := by kernel_rfl

theorem flowAt_labels {b N : Nat} {W : World} (hb : W.heap[b]? = some (.cells #[.iface 79 (.agg #[])] 83 (0, 0))) (hN : b < N) : FlowAt (.pointer (some ⟨b, 0, none⟩)) labelsP N W := by
  have key : ∀ w, Below N W w → w.heap[b]? = some (.cells #[.iface 79 (.agg #[])] 83 (0, 0)) := fun w hw => by rw [hw.block b hN]; exact hb
  refine ⟨fun w hw => ?_, fun w hw => ?_, fun w hw => ?_, fun w hw v x y h0 h1 => ?_, fun w hw c s x back _ h0 h1 => ?_, fun w hw c g s v _ h0 h1 => ?_, fun w hw c g s v _ h0 h1 => ?_, fun w hw c g ch r _ => ?_⟩
  · exact flow_words m_lab_words (fun _ _ => by kernel_rfl) w (fun w1 _ => labels_words w1) (key w hw)
  · exact flow_both m_lab_both (fun _ _ => by kernel_rfl) w (fun w1 _ => labels_both w1) (key w hw)
  · exact flow_sink rfl (by simp [Value.oneCell']) m_lab_sink (fun _ _ => by kernel_rfl) w (fun w1 _ => labels_sink w1) (key w hw)
  · exact flow_start m_lab_start (fun _ _ => by kernel_rfl) w v x y (fun w1 _ => labels_start v x y w1 h0 h1) (key w hw)
  · exact flow_scatter m_lab_scatter (fun _ _ => by kernel_rfl) w (fun w1 _ => labels_scatter c s x back w1) (key w hw)
  · exact flow_apply m_lab_apply (fun _ _ => by kernel_rfl) w (fun w1 _ => labels_apply c g s v w1) (key w hw)
  · exact flow_fold m_lab_fold (fun _ _ => by kernel_rfl) w (fun w1 _ => labels_fold c g s v w1 h0 h1) (key w hw)
  · exact flow_turn m_lab_turn (fun _ _ => by kernel_rfl) w (fun w1 _ => level_turn c g ch r w1) (key w hw)

theorem sinkOK_labels : SinkOK labelsP := ⟨fun s y w => mon_1_1 s y w, fun s y w => mon_0_0 s y w⟩
theorem sane_labels : Sane labelsP := .inl ⟨rfl, rfl, rfl, rfl, rfl⟩

set_option maxHeartbeats 1000000 in
/-- flows.WCC over a size that it takes. -/
theorem wcc_any (n : Nat) (hn1 : 1 ≤ n) (hn : n ≤ 2147483647) (w : World) : Calls Try.prog 12 #[.int .u32 n] w fun e w' =>
    e = .returned (.tuple #[.pointer (some ⟨w.heap.size, 0, none⟩), .int .i64 0]) ∧ w' = w.alloc (.cells #[.iface 79 (.agg #[])] 83) := by
  have h1 : (1 : Int) ≤ (n : Int) := by omega
  have h2 : (n : Int) ≤ 2147483647 := by omega
  go_enter Try.func12, Try.ntmps12
  go_wp2
  go_ret2
  exact ⟨rfl, rfl⟩
end Go.Proofs.Ytalpjipopipncaa
