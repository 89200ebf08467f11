/- The walks of the ways' Apply. Conditions: those of each theorem. -/
import Derived.Test.YtalpjipopipncaaWys
import Derived.BigRegion
namespace Go.Proofs.Ytalpjipopipncaa
open Go Go.RowKit
section
variable {n src f b : Nat}
set_option maxHeartbeats 2000000 in
theorem ways_shorten (v : Value) (c s : St) (g : Nat) (w : World) (hA : At w g 0 (stC s)) : Calls Try.prog 124 #[v, .agg (ctC c), .pointer (some ⟨g, 0, none⟩)] w fun e w' =>
    e = .returned (.bool (decide (¬ wrap64 (s 0) ≤ wrap64 (s 3)))) ∧ Keep [g] w w' ∧ At w' g 0 (stC (if wrap64 (s 0) ≤ wrap64 (s 3) then s else upd (upd s 0 (s 3)) 2 (u64p (c 0)))) := by
  have c0 : w.cell? ⟨g, 0, none⟩ = some (.int .u64 (s 0)) := by simpa using hA.cell (j := 0) (v := .int .u64 (s 0)) rfl
  have c2 : w.cell? ⟨g, 2, none⟩ = some (.int .u64 (s 2)) := by simpa using hA.cell (j := 2) (v := .int .u64 (s 2)) rfl
  have c3 : w.cell? ⟨g, 3, none⟩ = some (.int .u64 (s 3)) := by simpa using hA.cell (j := 3) (v := .int .u64 (s 3)) rfl
  have f0 := hA.frozen 0
  have f2 := hA.frozen 2
  have hl := hA.lt
  have hl1 : g < w.heap.size + 1 := by omega
  have HA := Lib.hid hA
  have HI0 := Lib.hid (i64_wrap (s 0))
  have HI3 := Lib.hid (i64_wrap (s 3))
  clear hA
  unfold ctC
  by_cases h : wrap64 (s 0) ≤ wrap64 (s 3)
  · rw [if_pos h, decide_eq_false (fun hh => hh h)]
    go_enter Try.func124, Try.ntmps124
    go_wp2
    refine wp_region_row 11 0 (by kernel_rfl) (by kernel_rfl) ?_
    simp only [List.take, List.drop]
    iterate 11 (refine wpHead_step (fun K hK => ?_); go_simp; (refine hK _ ?_; clear hK K))
    refine wpHead_nil (wpPure_nil ?_)
    intro w2 hw2
    refine wpList_nil (nOnly_mk ?_)
    rw [HI0.out, HI3.out]
    have hX : Ext w w2 := Ext.trans (((Keep.refl [] w).alloc _).drew) hw2
    go_wp2
    go_ret
    exact ⟨rfl, hX.mono (by simp), HA.out.ext hX⟩
  · rw [if_neg h, decide_eq_true h]
    go_enter Try.func124, Try.ntmps124
    go_wp2
    refine wp_region_row 11 0 (by kernel_rfl) (by kernel_rfl) ?_
    simp only [List.take, List.drop]
    iterate 11 (refine wpHead_step (fun K hK => ?_); go_simp; (refine hK _ ?_; clear hK K))
    refine wpHead_nil (wpPure_nil ?_)
    intro w2 hw2
    refine wpList_nil (nOnly_mk ?_)
    rw [HI0.out, HI3.out]
    have hX : Ext w w2 := Ext.trans (((Keep.refl [] w).alloc _).drew) hw2
    have hA2 := HA.out.ext hX
    have d0 := hX.cell c0
    have d2 := hX.cell c2
    have d3 := hX.cell c3
    have e0 := hA2.frozen 0
    have e2 := hA2.frozen 2
    have hC : At w2 w.heap.size 0 (ctC c) := At.ext (At.drew (At.new _ _ rfl)) hw2
    have dc : w2.cell? ⟨w.heap.size, 0, none⟩ = some (.int .u64 (c 0)) := by simpa using hC.cell (j := 0) (v := .int .u64 (c 0)) rfl
    have hgw : ¬ g = w.heap.size := by omega
    have hgl : g < w2.heap.size := hA2.lt
    have HX := Lib.hid hX
    have HA2 := Lib.hid hA2
    clear hX hA2 hw2 hC c0 c2 c3 f0 f2
    go_wp2
    go_region
    go_wp2
    go_ret
    refine ⟨rfl, ((HX.out.mono (by simp)).setCell (.inl (by simp)) _ |>.setCell (.inl (by simp)) _).drew, ?_⟩
    have h1 := (HA2.out.setCell (j := 0) (by rw [stC_size]; omega) (.int .u64 (s 3))).setCell (j := 2) (by simp only [Array.size_setIfInBounds, stC_size]; omega) (.int .u64 (u64p (c 0)))
    rw [stC_set _ 0 (by omega), stC_set _ 2 (by omega)] at h1
    exact h1.drew
set_option maxHeartbeats 2000000 in
theorem ways_tell (v : Value) (c s : St) (g : Nat) (w : World) (hA : At w g 0 (stC s)) : Calls Try.prog 125 #[v, .agg (ctC c), .pointer (some ⟨g, 0, none⟩)] w fun e w' =>
    e = .returned (.bool true) ∧ Keep [g] w w' ∧ At w' g 0 (stC (upd s 1 1)) := by
  have c1 : w.cell? ⟨g, 1, none⟩ = some (.int .u64 (s 1)) := by simpa using hA.cell (j := 1) (v := .int .u64 (s 1)) rfl
  have f1 := hA.frozen 1
  have hl := hA.lt
  have hl1 : g < w.heap.size + 1 := by omega
  have HA := Lib.hid hA
  clear hA
  unfold ctC
  go_enter Try.func125, Try.ntmps125
  go_wp2
  go_ret
  refine ⟨rfl, ((Keep.refl [g] w).setCell (p := ⟨g, 1, none⟩) (.inl (by simp)) _).alloc _, ?_⟩
  have h1 := HA.out.setCell (j := 1) (by rw [stC_size]; omega) (.int .u64 1)
  rw [stC_set _ 1 (by omega), Nat.zero_add] at h1
  exact h1.alloc _

theorem i185 : (Try.prog.info? 185).map (·.size) = some 2 := by kernel_rfl
set_option maxRecDepth 20000 in
set_option maxHeartbeats 2000000 in
/-- Apply, by which of the two it comes to. -/
theorem ways_app2 (h2 : Nat) (c g s s2 : St) (v : Int) (bo : Bool) (hh : c 1 = 0 ∧ h2 = 124 ∨ 1 ≤ c 1 ∧ h2 = 125) (hcl : ∀ (W : World) (q : Nat) (r : Value), At W q 0 (stC s) → Calls Try.prog h2 #[r, .agg (ctC c), .pointer (some ⟨q, 0, none⟩)] W fun e w' => e = .returned (.bool bo) ∧ Keep [q] W w' ∧ At w' q 0 (stC s2)) (w : World) :
    Calls Try.prog 116 #[.pointer (some ⟨b, 0, none⟩), .agg (ctC c), .agg (stC g), .int .u32 v, .agg (stC s)] w fun e w' =>
    e = .returned (.tuple #[.agg (stC (upd s2 3 ENDL)), .bool bo, .int .i64 0]) ∧ Ext w w' := by
  have HCL := Lib.hid hcl
  have HH := Lib.hid hh
  clear hcl hh
  go_enter Try.func116, Try.ntmps116
  go_upto_region 2 with (refine wpList_store_at rfl 185 _ _ rfl rfl rfl (At.new _ _ (by simp)) i185 rfl (by simp [Value.oneCell']) ?_)
  generalize hcs : (#[Value.func (.func 124) #[Value.pointer (some ⟨b, 0, none⟩)] #[], Value.func (.func 125) #[Value.pointer (some ⟨b, 0, none⟩)] #[]] : Array Value) = cs
  have hbox : (((((w.alloc (.cells (ctC c) 37)).alloc (.cells (stC g) 35)).alloc (.cells (stC s) 35)).alloc (.cells (stC zeroS) 35)).alloc (.cells #[.nilFunc, .nilFunc] 185)).heap.size = w.heap.size + 5 := by simp
  have hX0 : Ext w (((((w.alloc (.cells (ctC c) 37)).alloc (.cells (stC g) 35)).alloc (.cells (stC s) 35)).alloc (.cells (stC zeroS) 35)).alloc (.cells #[.nilFunc, .nilFunc] 185)) := (((((Keep.refl [] w).alloc _).alloc _).alloc _).alloc _).alloc _
  have hC0 : At (((((w.alloc (.cells (ctC c) 37)).alloc (.cells (stC g) 35)).alloc (.cells (stC s) 35)).alloc (.cells (stC zeroS) 35)).alloc (.cells #[.nilFunc, .nilFunc] 185)) w.heap.size 0 (ctC c) := At.alloc (At.alloc (At.alloc (At.alloc (At.new _ _ rfl) _) _) _) _
  have hS0 : At (((((w.alloc (.cells (ctC c) 37)).alloc (.cells (stC g) 35)).alloc (.cells (stC s) 35)).alloc (.cells (stC zeroS) 35)).alloc (.cells #[.nilFunc, .nilFunc] 185)) (w.heap.size + 1 + 1) 0 (stC s) := At.alloc (At.alloc (At.new _ _ (by simp)) _) _
  have hZ0 : At (((((w.alloc (.cells (ctC c) 37)).alloc (.cells (stC g) 35)).alloc (.cells (stC s) 35)).alloc (.cells (stC zeroS) 35)).alloc (.cells #[.nilFunc, .nilFunc] 185)) (w.heap.size + 1 + 1 + 1) 0 (stC zeroS) := At.alloc (At.new _ _ (by simp)) _
  have hF0 : At (((((w.alloc (.cells (ctC c) 37)).alloc (.cells (stC g) 35)).alloc (.cells (stC s) 35)).alloc (.cells (stC zeroS) 35)).alloc (.cells #[.nilFunc, .nilFunc] 185)) (w.heap.size + 1 + 1 + 1 + 1) 0 #[.nilFunc, .nilFunc] := At.new _ _ (by simp)
  change Code.wp _ _ _ _ (wput (((((w.alloc (.cells (ctC c) 37)).alloc (.cells (stC g) 35)).alloc (.cells (stC s) 35)).alloc (.cells (stC zeroS) 35)).alloc (.cells #[.nilFunc, .nilFunc] 185)) (w.heap.size + 1 + 1 + 1 + 1) 0 cs)
  have hcz : cs.size = 2 := by rw [← hcs]; rfl
  generalize (((((w.alloc (.cells (ctC c) 37)).alloc (.cells (stC g) 35)).alloc (.cells (stC s) 35)).alloc (.cells (stC zeroS) 35)).alloc (.cells #[.nilFunc, .nilFunc] 185)) = U at *
  have hP := keep_wput U (w.heap.size + 1 + 1 + 1 + 1) 0 cs
  have hX := Ext.trans' hX0 hP (by simp; omega)
  have hC := hC0.keep hP (by simp only [List.mem_singleton]; omega)
  have hS := hS0.keep hP (by simp only [List.mem_singleton]; omega)
  have hZ := hZ0.keep hP (by simp only [List.mem_singleton]; omega)
  have hF : At (wput U (w.heap.size + 1 + 1 + 1 + 1) 0 cs) (w.heap.size + 1 + 1 + 1 + 1) 0 cs := hF0.put (by rw [hcz]; rfl)
  generalize wput U (w.heap.size + 1 + 1 + 1 + 1) 0 cs = V at *
  clear hX0 hC0 hS0 hZ0 hF0 hP hbox U
  have e0 : cs[0]? = some (Value.func (.func 124) #[Value.pointer (some ⟨b, 0, none⟩)] #[]) := by rw [← hcs]; rfl
  have e1 : cs[1]? = some (Value.func (.func 125) #[Value.pointer (some ⟨b, 0, none⟩)] #[]) := by rw [← hcs]; rfl
  have c1 : V.cell? ⟨w.heap.size, 1, none⟩ = some (.int .u64 (c 1)) := by simpa using hC.cell (j := 1) (v := .int .u64 (c 1)) rfl
  have q0 : V.cell? ⟨w.heap.size + 1 + 1 + 1 + 1, 0, none⟩ = some (Value.func (.func 124) #[Value.pointer (some ⟨b, 0, none⟩)] #[]) := by simpa using hF.cell e0
  have q1 : V.cell? ⟨w.heap.size + 1 + 1 + 1 + 1, 1, none⟩ = some (Value.func (.func 125) #[Value.pointer (some ⟨b, 0, none⟩)] #[]) := by simpa using hF.cell e1
  have l0 := hC.lt
  have l4 := hF.lt
  have HX := Lib.hid hX
  have HC := Lib.hid hC
  have HS := Lib.hid hS
  have HZ := Lib.hid hZ
  clear hX hC hS hZ hF e0 e1 hcs hcz
  rcases HH.out with ⟨hc1, rfl⟩ | ⟨hc1, rfl⟩
  all_goals
    first
    | (have hmin : (if 1 < c 1 then (1 : Int) else c 1) = 0 := by split <;> omega)
    | (have hmin : (if 1 < c 1 then (1 : Int) else c 1) = 1 := by split <;> omega)
    clear hc1
    refine wp_region_row 6 0 (by kernel_rfl) (by kernel_rfl) ?_
    simp only [List.take, List.drop]
    iterate 3 (refine wpHead_step (fun K hK => ?_); go_simp; (refine hK _ ?_; clear hK K))
    iterate 2 (refine wpHead_step (fun K hK => ?_); go_simp; (refine hK _ ?_; clear hK K))
    refine wpHead_load_at rfl 37 _ rfl _ rfl HC.out.drew Try.underlying37 rfl i37 ?_
    refine wpHead_nil (wpPure_nil ?_)
    intro w2 hw2
    have hX2 : Ext w w2 := Ext.trans (Ext.trans HX.out (Ext.drew V)) hw2
    have HX2 := Lib.hid hX2
    have HS2 := Lib.hid (HS.out.ext (Ext.trans (Ext.drew V) hw2))
    have HZ2 := Lib.hid (HZ.out.ext (Ext.trans (Ext.drew V) hw2))
    clear hX2 hw2 HX HC HS HZ c1 q0 q1
    go_simp
    go_wp2_with (first | (go_at_call 124; refine (HCL.out _ _ _ HS2.out).mono ?_; rintro e w3 ⟨rfl, hK3, hA3⟩) | (go_at_call 125; refine (HCL.out _ _ _ HS2.out).mono ?_; rintro e w3 ⟨rfl, hK3, hA3⟩))
    refine nOnly_mk ?_
    have hX3 : Ext w w3 := Ext.trans' HX2.out hK3 (by simp; omega)
    have hZ3 := HZ2.out.keep hK3 (by simp only [List.mem_singleton]; omega)
    have k3 : w3.cell? ⟨w.heap.size + 1 + 1, 3, none⟩ = some (.int .u64 (s2 3)) := by simpa using hA3.cell (j := 3) (v := .int .u64 (s2 3)) rfl
    have f3 := hA3.frozen 3
    have l3 := hA3.lt
    have hA4 := hA3.setCell (j := 3) (by rw [stC_size]; omega) (.int .u64 ENDL)
    rw [stC_set _ 3 (by omega), Nat.zero_add] at hA4
    have hP4 : Keep [w.heap.size + 1 + 1] w3 (w3.setCell ⟨w.heap.size + 1 + 1, 3, none⟩ (.int .u64 ENDL)) := (Keep.refl _ _).setCell (.inl (by simp)) _
    have hX4 := Ext.trans' hX3 hP4 (by simp; omega)
    have hZ4 := hZ3.keep hP4 (by simp only [List.mem_singleton]; omega)
    have HX4 := Lib.hid hX4
    have HA4 := Lib.hid hA4
    have HZ4 := Lib.hid hZ4
    clear hX4 hA4 hZ4 hP4 hX3 hZ3 hK3 hA3 HX2 HS2 HZ2 HCL
    go_wp2_with (first | (refine wpList_load_at rfl 35 _ rfl _ rfl HA4.out Try.underlying35 rfl i35 ?_) | (refine wpList_store_at rfl 35 _ _ rfl rfl rfl HZ4.out i35 rfl (stC_one _) ?_))
    refine bodyPost_ret (results_at3 rfl _ _ rfl (HZ4.out.put rfl) Try.underlying35 rfl i35) rfl ⟨rfl, ?_⟩
    exact Ext.trans' HX4.out (keep_wput _ _ _ _) (by simp; omega)
theorem ways_apply (c g s : St) (v : Int) (hct : 0 ≤ c 1) (w : World) : Calls Try.prog 116 #[.pointer (some ⟨b, 0, none⟩), .agg (ctC c), .agg (stC g), .int .u32 v, .agg (stC s)] w fun e w' =>
    e = .returned (.tuple #[.agg (stC ((waysP n src f).apply c g v s).1), .bool ((waysP n src f).apply c g v s).2, .int .i64 0]) ∧ Ext w w' := by
  by_cases h1 : c 1 = 0
  · have e : (waysP n src f).apply c g v s = (upd (if wrap64 (s 0) ≤ wrap64 (s 3) then s else upd (upd s 0 (s 3)) 2 (u64p (c 0))) 3 ENDL, decide (¬ wrap64 (s 0) ≤ wrap64 (s 3))) := by
      simp only [waysP, h1, if_true]
      by_cases h : wrap64 (s 0) ≤ wrap64 (s 3)
      · rw [if_pos h, if_pos h, decide_eq_false (fun hh => hh h)]
      · rw [if_neg h, if_neg h, decide_eq_true h]
    rw [e]
    exact ways_app2 124 c g s _ v _ (.inl ⟨h1, rfl⟩) (fun W q r h => ways_shorten r c s q W h) w
  · have e : (waysP n src f).apply c g v s = (upd (upd s 1 1) 3 ENDL, true) := by simp only [waysP, h1, if_false]
    rw [e]
    exact ways_app2 125 c g s _ v _ (.inr ⟨by omega, rfl⟩) (fun W q r h => ways_tell r c s q W h) w
end
end Go.Proofs.Ytalpjipopipncaa
