/- The walks of the ways' Scatter and Apply. Conditions: those of each theorem. -/
import Derived.Test.YtalpjipopipncaaWyt
namespace Go.Proofs.Ytalpjipopipncaa
open Go Go.RowKit
theorem calls_ext {f : FuncId} {args : Array Value} {w : World} {v : Value} (h : Calls Try.prog f args w fun e w' => e = .returned v ∧ w' = w) : Calls Try.prog f args w fun e w' => e = .returned v ∧ Ext w w' :=
  h.mono fun e w' ⟨h1, h2⟩ => ⟨h1, by subst h2; exact Ext.refl _⟩
theorem i64_wrap (x : Int) : IntKind.i64.wrap x = wrap64 x := IntWalk.i64_left x
theorem wt_any (f : Nat) (hf : f = 39 ∨ f = 40) (w : Nat) (W : World) : Calls Try.prog f #[.int .u32 w] W fun e W' => e = .returned (.int .i64 (wtI f w)) ∧ Ext W W' := by
  rcases hf with rfl | rfl
  · exact calls_ext (counted_any w W)
  · exact calls_ext (plain_any w W)
theorem add_ext (a b : Int) (W : World) : Calls Try.prog 126 #[.int .i64 a, .int .i64 b] W fun e W' => e = .returned (.tuple #[.int .i64 (addI a b).1, .int .i64 (addI a b).2]) ∧ Ext W W' := calls_ext (add_any a b W)
section
variable {n src f b : Nat}
set_option maxRecDepth 20000 in
set_option maxHeartbeats 1000000 in
theorem ways_scatter (hf : f = 39 ∨ f = 40) (c s : St) (x : Edg) (back : Bool) (w : World) (hb : w.heap[b]? = some (.cells (wyC n src f) 93 (0, 0))) : Calls Try.prog 119 #[.pointer (some ⟨b, 0, none⟩), .agg (ctC c), .agg (stC s), .agg (edC x), .bool back] w fun e w' =>
    e = .returned (.tuple #[.int .u64 ((waysP n src f).scatter c s x back).1, .int .u64 ((waysP n src f).scatter c s x back).2.1, .bool ((waysP n src f).scatter c s x back).2.2.1, .int .i64 ((waysP n src f).scatter c s x back).2.2.2]) ∧ Ext w w' := by
  have hc : w.cell? ⟨b, 2, none⟩ = some (.func (.func f) #[] #[]) := cell_of_row w b 2 _ _ _ hb
  have hl := (Array.getElem?_eq_some_iff.1 hb).1
  have hl1 : b < w.heap.size + 1 := by omega
  have hl2 : b < w.heap.size + 1 + 1 := by omega
  have hl3 : b < w.heap.size + 1 + 1 + 1 := by omega
  clear hb
  have HF := Lib.hid hf
  clear hf
  have h0 : s 0 = ENDL ↔ (s 0 == 9223372036854775807) = true := by rw [beq_iff_eq]; rfl
  have h1 : c 1 ≠ 0 ↔ (c 1 != 0) = true := by simp
  have h2 : s 2 ≠ c 0 ↔ (s 2 != c 0) = true := by simp
  by_cases hq : back = true ∨ c 1 ≠ 0 ∨ s 0 = ENDL ∨ s 2 ≠ c 0
  · have e : (waysP n src f).scatter c s x back = (0, 0, false, 0) := if_pos hq
    rw [e]
    rw [h0, h1, h2] at hq
    clear e h0 h1 h2
    unfold ctC stC edC
    cases hb0 : back
    · cases hb1 : (c 1 != 0)
      · cases hb2 : (s 0 == 9223372036854775807)
        · have hb3 : (s 2 != c 0) = true := by simpa [hb0, hb1, hb2] using hq
          clear hq hb0
          go_enter Try.func119, Try.ntmps119
          go_wp2
          refine bodyPost_ret (results_tmp4 rfl _ _ _) rfl ⟨rfl, ?_⟩
          exact (((Keep.refl [] w).alloc _).alloc _).alloc _
        · clear hq hb0
          go_enter Try.func119, Try.ntmps119
          go_wp2
          refine bodyPost_ret (results_tmp4 rfl _ _ _) rfl ⟨rfl, ?_⟩
          exact (((Keep.refl [] w).alloc _).alloc _).alloc _
      · clear hq hb0
        go_enter Try.func119, Try.ntmps119
        go_wp2
        refine bodyPost_ret (results_tmp4 rfl _ _ _) rfl ⟨rfl, ?_⟩
        exact (((Keep.refl [] w).alloc _).alloc _).alloc _
    · clear hq hb0
      go_enter Try.func119, Try.ntmps119
      go_wp2
      refine bodyPost_ret (results_tmp4 rfl _ _ _) rfl ⟨rfl, ?_⟩
      exact (((Keep.refl [] w).alloc _).alloc _).alloc _
  · have hb0 : back = false := by simpa using fun h => hq (.inl h)
    have hb1 : (c 1 != 0) = false := by simpa using fun h => hq (.inr (.inl h))
    have hb2 : (s 0 == 9223372036854775807) = false := by
      have := mt h0.2 (fun h => hq (.inr (.inr (.inl h))))
      simpa using this
    have hb3 : (s 2 != c 0) = false := by simpa using fun h => hq (.inr (.inr (.inr h)))
    have e : (waysP n src f).scatter c s x back = if (addI (wrap64 (s 0)) (wtI f x.w)).2 ≠ 0 then (0, 0, false, (addI (wrap64 (s 0)) (wtI f x.w)).2) else (IntKind.u64.wrap (addI (wrap64 (s 0)) (wtI f x.w)).1, 0, true, 0) := if_neg hq
    rw [e]
    subst hb0
    clear e hq h0 h1 h2
    have h5 : (addI (wrap64 (s 0)) (wtI f x.w)).2 = 0 ∨ ¬ (addI (wrap64 (s 0)) (wtI f x.w)).2 = 0 := Classical.em _
    have HI64 := Lib.hid (i64_wrap (s 0))
    have HA := Lib.hid (fun W => add_ext (wrap64 (s 0)) (wtI f x.w) W)
    rcases HF.out with rfl | rfl
    all_goals
      have HC := Lib.hid (fun W => wt_any _ HF.out x.w W)
      generalize wtI _ x.w = t at *
      generalize addI (wrap64 (s 0)) t = p at *
      obtain ⟨p1, p2⟩ := p
      dsimp only at h5 HA ⊢
      have H5 := Lib.hid h5
      clear h5
      unfold ctC stC edC
      go_enter Try.func119, Try.ntmps119
      go_upto_region 3 with fail
      refine wp_region_row 16 0 (by kernel_rfl) (by kernel_rfl) ?_
      simp only [List.take, List.drop]
      iterate 9 (refine wpHead_step (fun K hK => ?_); go_simp; (refine hK _ ?_; clear hK K))
      refine wpHead_step (fun K hK => ?_); go_simp
      (apply Exists.intro; refine ⟨fun W1 => ?_, hK _ ?_⟩)
      · exact HC.out _
      clear hK K
      refine wpHead_step (fun K hK => ?_); go_simp
      (apply Exists.intro; refine ⟨fun W1 => ?_, hK _ ?_⟩)
      · rw [HI64.out]
        exact HA.out _
      clear hK K
      iterate 5 (refine wpHead_step (fun K hK => ?_); go_simp; (refine hK _ ?_; clear hK K))
      refine wpHead_nil (wpPure_nil ?_)
      intro w2 hw2
      refine wpList_nil (nOnly_mk ?_)
      have hX : Ext w w2 := Ext.trans ((((Keep.refl [] w).alloc _).alloc _).alloc _).drew hw2
      clear hw2
      rcases H5.out with h5 | h5
      · subst h5
        go_wp2
        refine bodyPost_ret (results_tmp4 rfl _ _ _) rfl ⟨rfl, hX⟩
      · go_wp2
        refine bodyPost_ret (results_tmp4 rfl _ _ _) rfl ⟨rfl, hX⟩
end
end Go.Proofs.Ytalpjipopipncaa
