/- The walks of the spread's methods, but for Start. Conditions: those of each theorem. -/
import Derived.Test.YtalpjipopipncaaRfs
namespace Go.Proofs.Ytalpjipopipncaa
open Go Go.RowKit

/-- BFS (rch = false) and Reach (rch = true) from these sources. -/
def spreadP (srcs : List Nat) (rch : Bool) : Prg where
  words := 3
  both := false
  a := 2
  ma := 1
  b := 0
  mb := 0
  start v := fun i => if i = 0 then (if v ∈ srcs.map (fun x : Nat => (x : Int)) then 0 else U64) else if i = 1 then (if v ∈ srcs.map (fun x : Nat => (x : Int)) then v else U64) else if i = 2 then U64 else 0
  scatter c s x back := (if rch then s 1 else x.s, 0, !back && s 0 == c 0, 0)
  apply c _ _ s := if s 0 = U64 ∧ s 2 ≠ U64 then (upd (upd (upd s 0 (u64p (c 0))) 1 (s 2)) 2 U64, true) else (upd s 2 U64, false)
  fold _ g _ s := if s 0 = U64 then g else upd (upd g 0 (u64p (g 0))) 1 (max (g 1) (s 0))
  turn c _ ch _ := (upd c 0 (u64p (c 0)), ch == 0)

section
variable {srcs : List Nat} {rch : Bool}
set_option maxHeartbeats 400000 in
theorem spread_words (v : Value) (w : World) : Calls Try.prog 132 #[v] w fun e w' => e = .returned (.int .i64 3) ∧ Ext w w' := by
  go_enter Try.func132, Try.ntmps132
  go_wp2
  go_ret
  exact ⟨rfl, Ext.refl _⟩
set_option maxHeartbeats 400000 in
theorem spread_both (v : Value) (w : World) : Calls Try.prog 128 #[v] w fun e w' => e = .returned (.bool false) ∧ Ext w w' := by
  go_enter Try.func128, Try.ntmps128
  go_wp2
  go_ret
  exact ⟨rfl, Ext.refl _⟩
set_option maxHeartbeats 400000 in
theorem spread_sink (v : Value) (w : World) : Calls Try.prog 130 #[v] w fun e w' => e = .returned (.agg #[.int .i64 2, .int .i64 1, .int .i64 0, .int .i64 0]) ∧ Ext w w' := by
  go_enter Try.func130, Try.ntmps130
  go_wp2
  refine bodyPost_ret (v := .agg #[.int .i64 2, .int .i64 1, .int .i64 0, .int .i64 0]) (by simp [results, Try.results130, go_sem]) rfl ⟨rfl, ?_⟩
  exact Ext.alloc _ _
set_option maxHeartbeats 400000 in
theorem spread_fold (r : Value) (c g s : St) (v : Int) (w : World) : Calls Try.prog 129 #[r, .agg (ctC c), .agg (stC g), .int .u32 v, .agg (stC s)] w fun e w' =>
    e = .returned (.tuple #[.agg (stC ((spreadP srcs rch).fold c g v s)), .int .i64 0]) ∧ Ext w w' := by
  by_cases h0 : s 0 = U64
  · have e : (spreadP srcs rch).fold c g v s = g := if_pos h0
    rw [e]
    have q : (s 0 != 18446744073709551615) = false := by simpa using show s 0 = 18446744073709551615 from h0
    clear h0 e
    unfold ctC stC
    go_enter Try.func129, Try.ntmps129
    go_wp2
    refine bodyPost_ret (v := .tuple #[.agg (stC g), .int .i64 0]) (by simp [results, Try.results129, go_sem, stC]) rfl ⟨rfl, ?_⟩
    exact (((((Keep.refl [] w).alloc _).alloc _).alloc _).alloc _)
  · have e : (spreadP srcs rch).fold c g v s = upd (upd g 0 (u64p (g 0))) 1 (max (g 1) (s 0)) := if_neg h0
    rw [e]
    have q : (s 0 != 18446744073709551615) = true := by simpa using show ¬ s 0 = 18446744073709551615 from h0
    clear h0 e
    by_cases hm : g 1 < s 0
    · have hmx : max (g 1) (s 0) = s 0 := by omega
      rw [hmx]
      clear hmx
      unfold ctC stC
      go_enter Try.func129, Try.ntmps129
      go_wp2
      refine bodyPost_ret (v := .tuple #[.agg (stC (upd (upd g 0 (u64p (g 0))) 1 (s 0))), .int .i64 0]) (by simp [results, Try.results129, go_sem, stC, upd, u64p]) rfl ⟨rfl, ?_⟩
      exact (((((Keep.refl [] w).alloc _).alloc _).alloc _).alloc _)
    · have hmx : max (g 1) (s 0) = g 1 := by omega
      rw [hmx]
      clear hmx
      unfold ctC stC
      go_enter Try.func129, Try.ntmps129
      go_wp2
      refine bodyPost_ret (v := .tuple #[.agg (stC (upd (upd g 0 (u64p (g 0))) 1 (g 1))), .int .i64 0]) (by simp [results, Try.results129, go_sem, stC, upd, u64p]) rfl ⟨rfl, ?_⟩
      exact (((((Keep.refl [] w).alloc _).alloc _).alloc _).alloc _)
set_option maxHeartbeats 800000 in
theorem spread_apply (r : Value) (c g s : St) (v : Int) (w : World) : Calls Try.prog 127 #[r, .agg (ctC c), .agg (stC g), .int .u32 v, .agg (stC s)] w fun e w' =>
    e = .returned (.tuple #[.agg (stC ((spreadP srcs rch).apply c g v s).1), .bool ((spreadP srcs rch).apply c g v s).2, .int .i64 0]) ∧ Ext w w' := by
  by_cases h0 : s 0 = U64
  · have q0 : (s 0 == 18446744073709551615) = true := by simpa using show s 0 = 18446744073709551615 from h0
    by_cases h2 : s 2 = U64
    · have e : (spreadP srcs rch).apply c g v s = (upd s 2 U64, false) := if_neg (fun h => h.2 h2)
      rw [e]
      have q2 : (s 2 != 18446744073709551615) = false := by simpa using show s 2 = 18446744073709551615 from h2
      clear h0 h2 e
      unfold ctC stC
      go_enter Try.func127, Try.ntmps127
      go_wp2
      refine bodyPost_ret (v := .tuple #[.agg (stC (upd s 2 U64)), .bool false, .int .i64 0]) (by simp [results, Try.results127, go_sem, stC, upd, U64]) rfl ⟨rfl, ?_⟩
      exact (((((Keep.refl [] w).alloc _).alloc _).alloc _).alloc _)
    · have e : (spreadP srcs rch).apply c g v s = (upd (upd (upd s 0 (u64p (c 0))) 1 (s 2)) 2 U64, true) := if_pos ⟨h0, h2⟩
      rw [e]
      have q2 : (s 2 != 18446744073709551615) = true := by simpa using show ¬ s 2 = 18446744073709551615 from h2
      clear h0 h2 e
      unfold ctC stC
      go_enter Try.func127, Try.ntmps127
      go_wp2
      refine bodyPost_ret (v := .tuple #[.agg (stC (upd (upd (upd s 0 (u64p (c 0))) 1 (s 2)) 2 U64)), .bool true, .int .i64 0]) (by simp [results, Try.results127, go_sem, stC, upd, U64, u64p]) rfl ⟨rfl, ?_⟩
      exact (((((Keep.refl [] w).alloc _).alloc _).alloc _).alloc _)
  · have q0 : (s 0 == 18446744073709551615) = false := by simpa using show ¬ s 0 = 18446744073709551615 from h0
    have e : (spreadP srcs rch).apply c g v s = (upd s 2 U64, false) := if_neg (fun h => h0 h.1)
    rw [e]
    clear h0 e
    unfold ctC stC
    go_enter Try.func127, Try.ntmps127
    go_wp2
    refine bodyPost_ret (v := .tuple #[.agg (stC (upd s 2 U64)), .bool false, .int .i64 0]) (by simp [results, Try.results127, go_sem, stC, upd, U64]) rfl ⟨rfl, ?_⟩
    exact (((((Keep.refl [] w).alloc _).alloc _).alloc _).alloc _)
set_option maxHeartbeats 1000000 in
theorem bfs_scatter (r : Value) (c s : St) (x : Edg) (back : Bool) (hx : x.s < 4294967296) (w : World) : Calls Try.prog 135 #[r, .agg (ctC c), .agg (stC s), .agg (edC x), .bool back] w fun e w' =>
    e = .returned (.tuple #[.int .u64 ((spreadP srcs false).scatter c s x back).1, .int .u64 ((spreadP srcs false).scatter c s x back).2.1, .bool ((spreadP srcs false).scatter c s x back).2.2.1, .int .i64 ((spreadP srcs false).scatter c s x back).2.2.2]) ∧ Ext w w' := by
  show Calls Try.prog 135 #[r, .agg (ctC c), .agg (stC s), .agg (edC x), .bool back] w fun e w' => e = .returned (.tuple #[.int .u64 (x.s : Int), .int .u64 0, .bool (!back && s 0 == c 0), .int .i64 0]) ∧ Ext w w'
  have hwx : IntKind.u64.wrap (x.s : Int) = (x.s : Int) := by rw [u64_eq]; omega
  unfold ctC stC edC
  cases back with
  | true =>
    go_enter Try.func135, Try.ntmps135
    go_wp2
    refine wp_region_row 16 0 (by kernel_rfl) (by kernel_rfl) ?_
    simp only [List.take, List.drop]
    iterate 6 (refine wpHead_step (fun K hK => ?_); go_simp; (refine hK _ ?_; clear hK K))
    iterate 5 (with_reducible refine wpHead_off ?_ ?_; kernel_rfl)
    iterate 5 (refine wpHead_step (fun K hK => ?_); go_simp; (refine hK _ ?_; clear hK K))
    refine wpHead_nil (wpPure_nil ?_)
    intro w2 hw2
    refine wpList_nil (nOnly_mk ?_)
    go_wp2
    refine bodyPost_ret (results_tmp4 rfl _ _ _) rfl ⟨rfl, ?_⟩
    exact Ext.trans (((((Keep.refl [] w).alloc _).alloc _).alloc _).drew) hw2
  | false =>
    go_enter Try.func135, Try.ntmps135
    go_wp2
    refine wp_region_row 16 0 (by kernel_rfl) (by kernel_rfl) ?_
    simp only [List.take, List.drop]
    iterate 6 (refine wpHead_step (fun K hK => ?_); go_simp; (refine hK _ ?_; clear hK K))
    iterate 5 (with_reducible refine wpHead_on ?_ (fun K hK => ?_); kernel_rfl; go_simp; (refine hK _ ?_; clear hK K))
    iterate 5 (refine wpHead_step (fun K hK => ?_); go_simp; (refine hK _ ?_; clear hK K))
    refine wpHead_nil (wpPure_nil ?_)
    intro w2 hw2
    refine wpList_nil (nOnly_mk ?_)
    go_wp2
    refine bodyPost_ret (results_tmp4 rfl _ _ _) rfl ⟨rfl, ?_⟩
    exact Ext.trans (((((Keep.refl [] w).alloc _).alloc _).alloc _).drew) hw2
set_option maxHeartbeats 1000000 in
theorem reach_scatter (r : Value) (c s : St) (x : Edg) (back : Bool) (w : World) : Calls Try.prog 136 #[r, .agg (ctC c), .agg (stC s), .agg (edC x), .bool back] w fun e w' =>
    e = .returned (.tuple #[.int .u64 ((spreadP srcs true).scatter c s x back).1, .int .u64 ((spreadP srcs true).scatter c s x back).2.1, .bool ((spreadP srcs true).scatter c s x back).2.2.1, .int .i64 ((spreadP srcs true).scatter c s x back).2.2.2]) ∧ Ext w w' := by
  show Calls Try.prog 136 #[r, .agg (ctC c), .agg (stC s), .agg (edC x), .bool back] w fun e w' => e = .returned (.tuple #[.int .u64 (s 1), .int .u64 0, .bool (!back && s 0 == c 0), .int .i64 0]) ∧ Ext w w'
  unfold ctC stC edC
  cases back with
  | true =>
    go_enter Try.func136, Try.ntmps136
    go_wp2
    refine wp_region_row 15 0 (by kernel_rfl) (by kernel_rfl) ?_
    simp only [List.take, List.drop]
    iterate 5 (refine wpHead_step (fun K hK => ?_); go_simp; (refine hK _ ?_; clear hK K))
    iterate 5 (with_reducible refine wpHead_off ?_ ?_; kernel_rfl)
    iterate 5 (refine wpHead_step (fun K hK => ?_); go_simp; (refine hK _ ?_; clear hK K))
    refine wpHead_nil (wpPure_nil ?_)
    intro w2 hw2
    refine wpList_nil (nOnly_mk ?_)
    go_wp2
    refine bodyPost_ret (results_tmp4 rfl _ _ _) rfl ⟨rfl, ?_⟩
    exact Ext.trans (((((Keep.refl [] w).alloc _).alloc _).alloc _).drew) hw2
  | false =>
    go_enter Try.func136, Try.ntmps136
    go_wp2
    refine wp_region_row 15 0 (by kernel_rfl) (by kernel_rfl) ?_
    simp only [List.take, List.drop]
    iterate 5 (refine wpHead_step (fun K hK => ?_); go_simp; (refine hK _ ?_; clear hK K))
    iterate 5 (with_reducible refine wpHead_on ?_ (fun K hK => ?_); kernel_rfl; go_simp; (refine hK _ ?_; clear hK K))
    iterate 5 (refine wpHead_step (fun K hK => ?_); go_simp; (refine hK _ ?_; clear hK K))
    refine wpHead_nil (wpPure_nil ?_)
    intro w2 hw2
    refine wpList_nil (nOnly_mk ?_)
    go_wp2
    refine bodyPost_ret (results_tmp4 rfl _ _ _) rfl ⟨rfl, ?_⟩
    exact Ext.trans (((((Keep.refl [] w).alloc _).alloc _).alloc _).drew) hw2
end
end Go.Proofs.Ytalpjipopipncaa
