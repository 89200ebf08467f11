/- The walks of num, Mon and cut. Conditions: none but what each theorem states. -/
import Derived.Test.YtalpjipopipncaaFlo
namespace Go.Proofs.Ytalpjipopipncaa
open Go Go.RowKit

set_option maxHeartbeats 400000 in
theorem num_any (x : Int) (w : World) : Calls Try.prog 15 #[.int .i64 x] w fun e w' => e = .returned (.int .i64 x) ∧ w = w' := by
  go_enter Try.func15, Try.ntmps15
  go_wp2
  go_ret
  exact ⟨rfl, rfl⟩

set_option maxHeartbeats 1000000 in
theorem mon_1_1 (s : St) (y : Int) (w : World) : Calls Try.prog 59 #[.int .i64 1, .agg (stC s), .int .i64 1, .int .u64 y] w fun e w' => e = .returned (.agg (stC (monS 1 s 1 y))) ∧ Ext w w' := by
  unfold stC
  go_enter Try.func59, Try.ntmps59
  go_wp2
  · have e : min (s 1) y = y := by omega
    refine bodyPost_ret (v := .agg (stC (monS 1 s 1 y))) (by simp [results, Try.results59, go_sem, stC, monS, upd, e]) rfl ⟨rfl, ?_⟩
    exact ((Keep.refl [] w).alloc _).alloc _
  · have e : min (s 1) y = s 1 := by omega
    refine bodyPost_ret (v := .agg (stC (monS 1 s 1 y))) (by simp [results, Try.results59, go_sem, stC, monS, upd, e]) rfl ⟨rfl, ?_⟩
    exact ((Keep.refl [] w).alloc _).alloc _

set_option maxHeartbeats 1000000 in
theorem mon_1_2 (s : St) (y : Int) (w : World) : Calls Try.prog 59 #[.int .i64 1, .agg (stC s), .int .i64 2, .int .u64 y] w fun e w' => e = .returned (.agg (stC (monS 1 s 2 y))) ∧ Ext w w' := by
  unfold stC
  go_enter Try.func59, Try.ntmps59
  go_wp2
  · have e : min (s 2) y = y := by omega
    refine bodyPost_ret (v := .agg (stC (monS 1 s 2 y))) (by simp [results, Try.results59, go_sem, stC, monS, upd, e]) rfl ⟨rfl, ?_⟩
    exact ((Keep.refl [] w).alloc _).alloc _
  · have e : min (s 2) y = s 2 := by omega
    refine bodyPost_ret (v := .agg (stC (monS 1 s 2 y))) (by simp [results, Try.results59, go_sem, stC, monS, upd, e]) rfl ⟨rfl, ?_⟩
    exact ((Keep.refl [] w).alloc _).alloc _

set_option maxHeartbeats 1000000 in
theorem mon_3_3 (s : St) (y : Int) (w : World) : Calls Try.prog 59 #[.int .i64 3, .agg (stC s), .int .i64 3, .int .u64 y] w fun e w' => e = .returned (.agg (stC (monS 3 s 3 y))) ∧ Ext w w' := by
  unfold stC
  go_enter Try.func59, Try.ntmps59
  go_wp2
  · have e : min (wrap64 (s 3)) (wrap64 y) = wrap64 y := by omega
    refine bodyPost_ret (v := .agg (stC (monS 3 s 3 y))) (by simp [results, Try.results59, go_sem, stC, monS, upd, e]) rfl ⟨rfl, ?_⟩
    exact ((Keep.refl [] w).alloc _).alloc _
  · have e : min (wrap64 (s 3)) (wrap64 y) = wrap64 (s 3) := by omega
    refine bodyPost_ret (v := .agg (stC (monS 3 s 3 y))) (by simp [results, Try.results59, go_sem, stC, monS, upd, e]) rfl ⟨rfl, ?_⟩
    exact ((Keep.refl [] w).alloc _).alloc _

set_option maxHeartbeats 1000000 in
theorem mon_0_0 (s : St) (y : Int) (w : World) : Calls Try.prog 59 #[.int .i64 0, .agg (stC s), .int .i64 0, .int .u64 y] w fun e w' => e = .returned (.agg (stC s)) ∧ Ext w w' := by
  unfold stC
  go_enter Try.func59, Try.ntmps59
  go_wp2
  refine bodyPost_ret (v := .agg (stC s)) (by simp [results, Try.results59, go_sem, stC]) rfl ⟨rfl, ?_⟩
  exact ((Keep.refl [] w).alloc _).alloc _

/-- cut, as far as it has come. -/
def cutT (s : St) (k0 k : Nat) : St := fun i => if k0 ≤ i ∧ i < k then 0 else s i

set_option maxHeartbeats 1000000 in
theorem cut_any (s : St) (words : Int) (h0 : 0 ≤ words) (h8 : words ≤ 8) (w : World) : Calls Try.prog 48 #[.agg (stC s), .int .i64 words] w fun e w' => e = .returned (.agg (stC (cutS s words))) ∧ Ext w w' := by
  obtain ⟨k0, rfl⟩ := Int.eq_ofNat_of_zero_le h0
  have hk8 : k0 ≤ 8 := by omega
  go_enter Try.func48, Try.ntmps48
  go_wp2
  go_loopw [5] (fun i wr => ∃ k : Nat, k0 ≤ k ∧ k ≤ 8 ∧ i = .int .i64 k ∧ wr.heap[w.heap.size]? = some (.cells (stC (cutT s k0 k)) 35 (0, 0)) ∧ wr.heap[w.heap.size + 1]? = some (.cells #[.int .u64 0, .int .u64 0, .int .u64 0, .int .u64 0, .int .u64 0, .int .u64 0, .int .u64 0, .int .u64 0] 35 (0, 0)) ∧ Keep [] w wr) (fun i _ => 8 - (intOf i).toNat)
  case atStart =>
    refine ⟨k0, Nat.le_refl _, hk8, rfl, ?_, ?_, ((Keep.refl [] w).alloc _).alloc _⟩
    · rw [heap_alloc2_old, stC_congr (s' := cutT s k0 k0)]
      intro i _; simp [cutT]; omega
    · rw [heap_alloc2_new]
  case round =>
    obtain ⟨k, hk0, hk, rfl, hb, hz, hkeep⟩ := hrel
    by_cases hlt : k < 8
    · have hc : wr.cell? ⟨w.heap.size, k, none⟩ = some (.int .u64 (cutT s k0 k k)) := by rw [cell_of_row wr _ k _ _ _ hb]; exact stC_get _ k hlt
      have hf : wr.frozen? ⟨w.heap.size, k, none⟩ = false := frozen_of_row wr _ k _ _ hb
      have HB := Lib.hid hb
      have HZ := Lib.hid hz
      have HK := Lib.hid hkeep
      clear hb hz hkeep
      go_wp2
      go_roundw
      case rel =>
        refine ⟨k + 1, by omega, by omega, by go_num, ?_, ?_, HK.out.setCell (.inr (Nat.le_refl _)) _⟩
        · rw [heap_setCell_same wr _ k _ _ _ HB.out, stC_set _ k hlt]
          congr 2
          refine stC_congr fun i _ => ?_
          unfold upd cutT
          by_cases hik : i = k
          · subst hik; rw [if_pos rfl, if_pos ⟨hk0, by omega⟩]
          · rw [if_neg hik]; by_cases h2 : k0 ≤ i ∧ i < k
            · rw [if_pos h2, if_pos ⟨h2.1, by omega⟩]
            · rw [if_neg h2, if_neg (by omega)]
        · rw [heap_setCell_other _ _ _ _ (by simp)]; exact HZ.out
      case measure => simp [intOf]; omega
    · have hk8' : k = 8 := by omega
      subst hk8'
      have hA : At wr w.heap.size 0 (stC (cutT s k0 8)) := At.whole hb
      have hA2 : At wr (w.heap.size + 1) 0 _ := At.whole hz
      have HK := Lib.hid hkeep
      clear hb hz hkeep
      go_wp2_with (first | (refine wpList_load_at rfl 35 _ rfl _ rfl hA Try.underlying35 rfl i35 ?_) | (refine wpList_store_at rfl 35 _ _ rfl rfl rfl hA2 i35 rfl (stC_one _) ?_))
      have e : stC (cutT s k0 8) = stC (cutS s k0) := stC_congr fun i hi => by
        unfold cutT cutS
        by_cases h : k0 ≤ i
        · rw [if_pos ⟨h, hi⟩, if_pos (by omega)]
        · rw [if_neg (by omega), if_neg (by omega)]
      refine bodyPost_ret (results_at1 rfl _ _ rfl (hA2.put rfl) Try.underlying35 rfl i35) rfl ⟨by rw [e], ?_⟩
      exact HK.out.trans (keep_wput _ _ _ _) (fun j hj hlt => by simp at hj; omega)
end Go.Proofs.Ytalpjipopipncaa
