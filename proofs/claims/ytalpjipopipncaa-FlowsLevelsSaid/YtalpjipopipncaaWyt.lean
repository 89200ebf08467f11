/- Guarded operations in a region that draws its order, and the walk of the ways' Turn. Conditions: those of each theorem. -/
import Derived.Test.YtalpjipopipncaaWay
import Derived.Test.YtalpjipopipncaaPly
namespace Go.Proofs.Ytalpjipopipncaa
open Go Go.RowKit
section
variable {P : Program} {ops : Array Oper} {w : World} {Q : Act → Prop} {a : Act} {o : Oper} {rest : List Oper}
/-- A guarded operation of the head: it is wanted. -/
theorem wpHead_on (hw : Region.wanted o (yielded ops a.tmps) = true) (h : ∀ K : Act → Prop, (∀ a, wpHead P ops w Q rest a → K a) → ∃ v, (∀ x : Nx w, qAt P o a (nx w x) v) ∧ K (a.put o.dst v)) :
    wpHead P ops w Q (o :: rest) a := wpHead_step fun K hK => by rw [if_pos hw]; exact h K hK
/-- It is not. -/
theorem wpHead_off (hw : Region.wanted o (yielded ops a.tmps) = false) (h : wpHead P ops w Q rest (a.put o.dst undef)) :
    wpHead P ops w Q (o :: rest) a := wpHead_step fun K hK => by rw [if_neg (by rw [hw]; decide)]; exact hK _ h
end
theorem At.setCell {w : World} {g off : Nat} {cells : Array Value} (h : At w g off cells) {j : Nat} (hj : j < cells.size) (v : Value) : At (w.setCell ⟨g, off + j, none⟩ v) g off (cells.setIfInBounds j v) := by
  obtain ⟨cur, t, hg, hf, hc⟩ := h
  refine ⟨_, t, heap_setCell_same w g (off + j) _ _ _ hg, by simpa using hf, fun i hi => ?_⟩
  have hi' : i < cells.size := by simpa using hi
  have := hc i hi'
  simp only [Array.getElem?_setIfInBounds]
  by_cases hij : j = i
  · subst hij; rw [if_pos rfl, if_pos rfl, if_pos (by omega), if_pos hj]
  · rw [if_neg hij, if_neg (by omega)]; exact this
section
variable {n src f b : Nat}
set_option maxHeartbeats 1000000 in
theorem ways_turn (hn : n < 4294967296) (c g : St) (ch r : Int) (w : World) (hb : w.heap[b]? = some (.cells (wyC n src f) 93 (0, 0))) : Calls Try.prog 122 #[.pointer (some ⟨b, 0, none⟩), .agg (ctC c), .agg (stC g), .int .u64 ch, .int .i64 r] w fun e w' =>
    e = .returned (.tuple #[.agg (ctC ((waysP n src f).turn c g ch r).1), .bool ((waysP n src f).turn c g ch r).2, .int .i64 0]) ∧ Ext w w' := by
  have hc : w.cell? ⟨b, 0, none⟩ = some (.int .u32 n) := cell_of_row w b 0 _ _ _ hb
  have hl := (Array.getElem?_eq_some_iff.1 hb).1
  have hwn : IntKind.u64.wrap (n : Int) = (n : Int) := by simp [IntKind.wrap, IntKind.bits, IntKind.signed]; omega
  have hl1 : b < w.heap.size + 1 := by omega
  have hl2 : b < w.heap.size + 1 + 1 := by omega
  have hl3 : b < w.heap.size + 1 + 1 + 1 := by omega
  clear hb
  have hE : ∀ (c1 : St) (w2 : World), Ext (((w.alloc (.cells (ctC c1) 37)).alloc (.cells (stC g) 35)).alloc (.cells (ctC zeroS) 37)).drew w2 → Ext w w2 ∧ At w2 w.heap.size 0 (ctC c1) ∧ At w2 (w.heap.size + 1 + 1) 0 (ctC zeroS) := fun c1 w2 h =>
    ⟨Ext.trans ((((Keep.refl [] w).alloc _).alloc _).alloc _).drew h, At.ext (At.drew (At.alloc (At.alloc (At.new _ _ rfl) _) _)) h, At.ext (At.drew (At.new _ _ (by simp))) h⟩
  have HE := Lib.hid hE
  clear hE
  by_cases h1 : ch = 0 ∨ c 1 ≠ 0
  · have e : (waysP n src f).turn c g ch r = (upd c 0 (u64p (c 0)), true) := by simp only [waysP, h1, not_true_eq_false, false_and, if_false, decide_true]
    rw [e]
    rcases Classical.em (ch = 0) with h2 | h2
    · subst h2
      unfold ctC stC
      go_enter Try.func122, Try.ntmps122
      go_upto_region 3 with fail
      refine wp_region_row 12 0 (by kernel_rfl) (by kernel_rfl) ?_
      simp only [List.take, List.drop]
      iterate 3 (refine wpHead_step (fun K hK => ?_); go_simp; (refine hK _ ?_; clear hK K))
      iterate 8 (with_reducible refine wpHead_off ?_ ?_; kernel_rfl)
      iterate 1 (refine wpHead_step (fun K hK => ?_); go_simp; (refine hK _ ?_; clear hK K))
      refine wpHead_nil (wpPure_nil ?_)
      intro w2 hw2
      refine wpList_nil (nOnly_mk ?_)
      obtain ⟨hX, hA, hZ⟩ := HE.out (upd c 0 (u64p (c 0))) w2 hw2
      clear hw2
      go_wp2_with (first | (refine wpList_load_at rfl 37 _ rfl _ rfl hA Try.underlying37 rfl i37 ?_) | (refine wpList_store_at rfl 37 _ _ rfl rfl rfl hZ i37 rfl (ctC_one _) ?_))
      refine bodyPost_ret (results_at3 rfl _ _ rfl (hZ.put rfl) Try.underlying37 rfl i37) rfl ⟨rfl, ?_⟩
      exact Ext.trans' hX (keep_wput _ _ _ _) (by simp; omega)
    · have h3 : ¬ c 1 = 0 := fun h => h1.elim h2 (fun hh => hh h)
      have q1 : (ch == 0) = false := by simp [h2]
      have q2 : (c 1 != 0) = true := by simp [h3]
      clear h1 h2 h3 e
      unfold ctC stC
      go_enter Try.func122, Try.ntmps122
      go_upto_region 3 with fail
      refine wp_region_row 12 0 (by kernel_rfl) (by kernel_rfl) ?_
      simp only [List.take, List.drop]
      iterate 3 (refine wpHead_step (fun K hK => ?_); go_simp; (refine hK _ ?_; clear hK K))
      iterate 8 (with_reducible refine wpHead_off ?_ ?_; kernel_rfl)
      iterate 1 (refine wpHead_step (fun K hK => ?_); go_simp; (refine hK _ ?_; clear hK K))
      refine wpHead_nil (wpPure_nil ?_)
      intro w2 hw2
      refine wpList_nil (nOnly_mk ?_)
      obtain ⟨hX, hA, hZ⟩ := HE.out (upd c 0 (u64p (c 0))) w2 hw2
      clear hw2
      go_wp2_with (first | (refine wpList_load_at rfl 37 _ rfl _ rfl hA Try.underlying37 rfl i37 ?_) | (refine wpList_store_at rfl 37 _ _ rfl rfl rfl hZ i37 rfl (ctC_one _) ?_))
      refine bodyPost_ret (results_at3 rfl _ _ rfl (hZ.put rfl) Try.underlying37 rfl i37) rfl ⟨rfl, ?_⟩
      exact Ext.trans' hX (keep_wput _ _ _ _) (by simp; omega)
  · have h2 : ¬ ch = 0 := fun h => h1 (.inl h)
    have h3 : c 1 = 0 := Classical.byContradiction fun h => h1 (.inr h)
    have e : (waysP n src f).turn c g ch r = (if (n : Int) ≤ IntKind.u64.wrap (c 0 + 1) then upd (upd c 0 (u64p (c 0))) 1 1 else upd c 0 (u64p (c 0)), false) := by
      simp only [waysP, h1, not_false_eq_true, true_and, decide_false, u64p]
    rw [e]
    have q1 : (ch == 0) = false := by simp [h2]
    have q2 : (c 1 != 0) = false := by simp [h3]
    clear e h1 h2 h3
    generalize hcc : (if (n : Int) ≤ IntKind.u64.wrap (c 0 + 1) then upd (upd c 0 (u64p (c 0))) 1 1 else upd c 0 (u64p (c 0))) = c2
    have HCC := Lib.hid hcc
    clear hcc
    have HH := Lib.hid (Classical.em ((n : Int) ≤ IntKind.u64.wrap (c 0 + 1)))
    unfold ctC stC
    go_enter Try.func122, Try.ntmps122
    go_upto_region 3 with fail
    refine wp_region_row 12 0 (by kernel_rfl) (by kernel_rfl) ?_
    simp only [List.take, List.drop]
    iterate 3 (refine wpHead_step (fun K hK => ?_); go_simp; (refine hK _ ?_; clear hK K))
    iterate 8 (with_reducible refine wpHead_on ?_ (fun K hK => ?_); kernel_rfl; go_simp; (refine hK _ ?_; clear hK K))
    iterate 1 (refine wpHead_step (fun K hK => ?_); go_simp; (refine hK _ ?_; clear hK K))
    refine wpHead_nil (wpPure_nil ?_)
    intro w2 hw2
    refine wpList_nil (nOnly_mk ?_)
    obtain ⟨hX, hA, hZ⟩ := HE.out (upd c 0 (u64p (c 0))) w2 hw2
    clear hw2
    have hls : w.heap.size < w2.heap.size := hA.lt
    have hfz := hA.frozen 1
    have hc1 : w2.cell? ⟨w.heap.size, 1, none⟩ = some (.int .u64 (c 1)) := by
      have := hA.cell (j := 1) (v := .int .u64 (c 1)) rfl
      rwa [Nat.zero_add] at this
    rcases HH.out with hh | hh
    · have hcc := HCC.out
      rw [if_pos hh] at hcc
      subst hcc
      have hP := Keep.setCell (Keep.refl [w.heap.size] w2) (p := ⟨w.heap.size, 1, none⟩) (.inl (by simp)) (.int .u64 1)
      have hA2 : At (w2.setCell ⟨w.heap.size, 1, none⟩ (.int .u64 1)) w.heap.size 0 (ctC (upd (upd c 0 (u64p (c 0))) 1 1)) := by
        have := hA.setCell (j := 1) (show 1 < 4 by omega) (.int .u64 1)
        rwa [Nat.zero_add] at this
      have hZ2 := hZ.keep hP (by simp only [List.mem_singleton]; omega)
      have hX2 := Ext.trans' hX hP (by simp)
      go_wp2_with (first | (refine wpList_load_at rfl 37 _ rfl _ rfl hA2 Try.underlying37 rfl i37 ?_) | (refine wpList_store_at rfl 37 _ _ rfl rfl rfl hZ2 i37 rfl (ctC_one _) ?_))
      refine bodyPost_ret (results_at3 rfl _ _ rfl (hZ2.put rfl) Try.underlying37 rfl i37) rfl ⟨rfl, ?_⟩
      exact Ext.trans' hX2 (keep_wput _ _ _ _) (by simp; omega)
    · have hcc := HCC.out
      rw [if_neg hh] at hcc
      subst hcc
      go_wp2_with (first | (refine wpList_load_at rfl 37 _ rfl _ rfl hA Try.underlying37 rfl i37 ?_) | (refine wpList_store_at rfl 37 _ _ rfl rfl rfl hZ i37 rfl (ctC_one _) ?_))
      refine bodyPost_ret (results_at3 rfl _ _ rfl (hZ.put rfl) Try.underlying37 rfl i37) rfl ⟨rfl, ?_⟩
      exact Ext.trans' hX (keep_wput _ _ _ _) (by simp; omega)
end
end Go.Proofs.Ytalpjipopipncaa
