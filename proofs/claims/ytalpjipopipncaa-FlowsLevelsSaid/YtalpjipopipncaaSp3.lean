/- The library's sort at one number; the walk of BFS. Conditions: those of each theorem. -/
import Derived.Test.YtalpjipopipncaaSp2
namespace Go.Proofs.Ytalpjipopipncaa
open Go Go.RowKit
set_option maxRecDepth 20000 in
set_option maxHeartbeats 1000000 in
theorem len64_one (w : World) : Calls Try.prog 83 #[.int .u64 1] w fun e w' => e = .returned (.int .i64 1) ∧ w' = w := by
  go_enter Try.func83, Try.ntmps83
  go_wp2
  go_ret
  exact ⟨by kernel_rfl, rfl⟩
set_option maxRecDepth 20000 in
set_option maxHeartbeats 1000000 in
theorem len_one (w : World) : Calls Try.prog 67 #[.int .u64 1] w fun e w' => e = .returned (.int .i64 1) ∧ w' = w := by
  go_enter Try.func67, Try.ntmps67
  go_wp2_with fail
  go_at_call 83
  refine (len64_one _).mono ?_
  rintro e w' ⟨rfl, rfl⟩
  go_wp2
  go_ret
  exact ⟨rfl, rfl⟩
set_option maxRecDepth 20000 in
set_option maxHeartbeats 1000000 in
theorem isort_one (p : Value) (w : World) : Calls Try.prog 73 #[p, .int .i64 0, .int .i64 1] w fun e w' => e = .returned (.tuple #[]) ∧ w' = w := by
  go_enter Try.func73, Try.ntmps73
  go_wp2
  go_loopg [6] 0 (fun m i wr => i = .int .i64 1 ∧ wr = w)
  case atStart => exact ⟨rfl, rfl⟩
  case round =>
    obtain ⟨rfl, rfl⟩ := hrel
    go_wp2
    ((try simp only [Exit.inBlock, Exit.then]); first | (refine bodyPost_ret (results_none rfl _ _ _) rfl ?_) | (refine bodyPost_end (results_none rfl _ _ _) rfl ?_))
    exact ⟨rfl, rfl⟩
set_option maxRecDepth 20000 in
set_option maxHeartbeats 1000000 in
theorem pdq_one (p : Value) (w : World) : Calls Try.prog 66 #[p, .int .i64 0, .int .i64 1, .int .i64 1] w fun e w' => e = .returned (.tuple #[]) ∧ w' = w := by
  go_enter Try.func66, Try.ntmps66
  go_wp2
  go_loopg [1, 2, 3] 0 (fun m x y z wr => x = .int .i64 0 ∧ y = .int .i64 1 ∧ z = .int .i64 1 ∧ wr = w)
  case atStart => exact ⟨rfl, rfl, rfl, rfl⟩
  case round =>
    obtain ⟨rfl, rfl, rfl, rfl⟩ := hrel
    go_wp2_with fail
    go_at_call 73
    refine (isort_one _ _).mono ?_
    rintro e w' ⟨rfl, rfl⟩
    go_wp2
    ((try simp only [Exit.inBlock, Exit.then]); first | (refine bodyPost_ret (results_none rfl _ _ _) rfl ?_) | (refine bodyPost_end (results_none rfl _ _ _) rfl ?_))
    exact ⟨rfl, rfl⟩
set_option maxHeartbeats 1000000 in
theorem sortOK_one : SortOK 1 := by
  intro g c zs w hzs hR
  have HK : Hid (Row w g 25 1 u32C zs ∧ zs.length = 1) := Lib.hid ⟨hR, hzs⟩
  clear hzs hR
  go_enter Try.func61, Try.ntmps61
  go_wp2_with fail
  go_at_call 67
  refine (len_one _).mono ?_
  rintro e w' ⟨rfl, rfl⟩
  go_wp2_with fail
  go_at_call 66
  refine (pdq_one _ _).mono ?_
  rintro e w' ⟨rfl, rfl⟩
  go_wp2
  ((try simp only [Exit.inBlock, Exit.then]); first | (refine bodyPost_ret (results_none rfl _ _ _) rfl ?_) | (refine bodyPost_end (results_none rfl _ _ _) rfl ?_))
  refine ⟨rfl, Keep.refl _ _, zs, HK.out.2, ?_, fun _ => Iff.rfl, HK.out.1⟩
  intro i j hi hj
  have := HK.out.2
  obtain rfl : i = 0 := by omega
  obtain rfl : j = 0 := by omega
  exact Nat.le_refl _
set_option maxHeartbeats 1000000 in
/-- flows.BFS over a size that it takes. -/
theorem bfs_any (n s : Nat) (hn1 : 1 ≤ n) (hn : n ≤ 2147483647) (hs : s < n) (w : World) : Calls Try.prog 27 #[.int .u32 n, .int .u32 s] w fun e w' => ∃ b sp gs cs q,
    e = .returned (.tuple #[.pointer (some ⟨b, 0, none⟩), .int .i64 0]) ∧ Ext w w' ∧ (w.heap.size ≤ b ∧ w.heap.size ≤ sp ∧ w.heap.size ≤ gs ∧ w.heap.size ≤ q) ∧
      w'.heap[sp]? = some (.cells #[.slice (some ⟨gs, 0, none⟩) 1 cs] 131 (0, 0)) ∧ Row w' gs 25 1 u32C [s] ∧ w'.heap[q]? = some (.cells #[.pointer (some ⟨sp, 0, none⟩)] 100 (0, 0)) ∧ w'.heap[b]? = some (.cells #[.iface 98 (.pointer (some ⟨q, 0, none⟩))] 83 (0, 0)) := by
  have hR : Row (w.alloc (.cells #[.int .u32 s] 25)) w.heap.size 25 1 u32C [s] := by
    refine ⟨#[.int .u32 s], heap_alloc_new w _, by simp, fun i hi j hj => ?_⟩
    obtain rfl : i = 0 := by simp at hi; omega
    obtain rfl : j = 0 := by omega
    rfl
  have HS := Lib.hid (spreading_any sortOK_one n hn1 hn [s] rfl (by omega) (by omega) (by simpa using hs) w.heap.size 1 (w.alloc (.cells #[.int .u32 s] 25)) hR)
  clear hR
  go_enter Try.func27, Try.ntmps27
  go_wp2_with fail
  go_at_call 41
  refine HS.out.mono ?_
  rintro e w1 ⟨sp, gs, cs, rfl, hX, hsp, hgs, hcs, L, hL, hA, hM, hR⟩
  have HX := Lib.hid (show Ext w w1 from Ext.trans (Ext.alloc _ _) hX)
  have hsp1 : w.heap.size ≤ sp := by simp at hsp; omega
  have hgs1 : w.heap.size ≤ gs := by simp at hgs; omega
  have e : L = [s] := by
    rcases L with _ | ⟨a, _ | ⟨b, L⟩⟩
    · simp at hL
    · rw [List.mem_singleton.1 ((hM a).1 (List.mem_singleton.2 rfl))]
    · simp at hL
  rw [e] at hR
  have HR := Lib.hid hR
  have HC := Lib.hid hcs
  clear hX hsp hgs hcs hL hA hM hR e HS
  go_wp2
  go_ret2
  have hX2 : Ext w1 ((w1.alloc (.cells #[.pointer (some ⟨sp, 0, none⟩)] 100)).alloc (.cells #[.iface 98 (.pointer (some ⟨w1.heap.size, 0, none⟩))] 83)) := ((Keep.refl [] w1).alloc _).alloc _
  have hsz := HX.out.size
  refine ⟨w1.heap.size + 1, sp, gs, cs, w1.heap.size, rfl, Ext.trans HX.out hX2, ⟨by omega, hsp1, hgs1, hsz⟩, hX2.heap HC.out, HR.out.ext hX2, ?_, ?_⟩
  · rw [heap_alloc2_old]
  · rw [heap_alloc2_new]
end Go.Proofs.Ytalpjipopipncaa
