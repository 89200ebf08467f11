/- The walk of begin. Conditions: those of begin_any. -/
import Derived.Test.YtalpjipopipncaaDeg
namespace Go.Proofs.Ytalpjipopipncaa
open Go Go.RowKit

/-- The first k states at the start. -/
def startT (G : Prg) (k : Nat) : List St := (List.range k).map fun (v : Nat) => cutS (G.start v) G.words
theorem startT_length (G : Prg) (k : Nat) : (startT G k).length = k := by simp [startT]
theorem startT_succ (G : Prg) (k : Nat) : startT G (k + 1) = startT G k ++ [cutS (G.start k) G.words] := by simp [startT, List.range_succ]
theorem flat_append {α : Type} (enc : α → Array Value) (S T : List α) : flat enc (S ++ T) = flat enc S ++ flat enc T := by simp [flat]
theorem info35 : (Try.prog.info? 35).map (fun i => (i.zero, i.size, i.bytes)) = some (some (.agg (stC zeroS)), 8, 64) := by kernel_rfl

theorem Ext.trans' {S : List Nat} {a b c : World} (h : Ext a b) (k : Keep S b c) (hS : ∀ i ∈ S, a.heap.size ≤ i) : Ext a c :=
  Keep.trans h k (fun i hi hlt => by have := hS i hi; omega)

theorem run_build35 (s : St) (w : World) : (Instr.buildSlice 32 1 #[(0, .agg (stC s))]).run Try.prog w = .ok (.slice (some ⟨w.heap.size, 0, none⟩) 1 1) (w.alloc (.cells (stC s) 35)) := by
  simp [go_sem, stC]

theorem fOpE_build35 {ops : Array Oper} {i : Nat} {o : Oper} {a : Act} {w : World} {K : Act → World → Prop} {x : Operand} {s : St} (ho : ops[i]? = some o) (hg : o.guard = none) (hop : o.op = .buildSlice 32 1 #[(0, x)]) (hx : a.eval x = .agg (stC s))
    (h : ∀ w', Ext w w' → K (a.put o.dst (.slice (some ⟨w'.heap.size, 0, none⟩) 1 1)) (w'.alloc (.cells (stC s) 35))) : fOpE Try.prog ops i K a w := by
  refine ⟨o, ho, hg, fun w' hw' => ⟨_, _, ?_, Ext.alloc _ _, h w' hw'⟩⟩
  unfold execOp
  simp only [hop, List.map_toArray, List.map_cons, List.map_nil, hx, Sem.run_bind, run_build35, Result.andThen_ok, Sem.run_pure]

theorem ownsRow_keep {S : List Nat} {w w' : World} {base : Nat} {e : TypeId} {size : Nat} {v : Value} {n : Nat} {xs : List Value} (h : w.ownsRow base e size v n xs) (hk : Keep S w w') (hS : ∀ k ∈ S, v.ownBlock ≠ some k) : w'.ownsRow base e size v n xs := by
  obtain ⟨h1, h2⟩ := h
  refine ⟨h1, ?_⟩
  rcases h2 with h2 | ⟨g, cap, cur, rfl, hb, hg, r⟩
  · exact .inl h2
  · exact .inr ⟨g, cap, cur, rfl, hb, hk.heap hg (fun hs => hS g hs rfl), r⟩

set_option maxHeartbeats 4000000 in
theorem begin_any {p : Value} {G : Prg} {N : Nat} {W0 : World} (hF : FlowAt p G N W0) (hw8 : 0 ≤ G.words ∧ G.words ≤ 8) (n : Nat) (hn1 : 1 ≤ n) (hn : n ≤ 400) (ao : Option Addr) (cap : Nat) (E : List Edg) (hlen : E.length ≤ 9223372036854775807) (hE : ∀ e ∈ E, e.s < n ∧ e.d < n) (w : World) (hw : Below N W0 w) (hN : N ≤ w.heap.size) (he : EdgesAt w ao E) :
    Calls Try.prog 34 #[p, .int .u32 n, .slice ao E.length cap] w fun e w' => ∃ (g c : Nat), e = .returned (.tuple #[.agg (runC (.slice (some ⟨g, 0, none⟩) n c) (foldT G zeroS (startT G n) n) zeroS 0 0), .bool true]) ∧ Ext w w' ∧ w.heap.size ≤ g ∧ Row w' g 35 8 stC (startT G n) := by
  obtain ⟨i0, hi, hz0, hz1, hz2⟩ := info_parts info35
  have HI := Lib.hid hi
  have HZ0 := Lib.hid hz0
  have HZ1 := Lib.hid hz1
  have HZ2 := Lib.hid hz2
  have HF := Lib.hid hF
  have HW := Lib.hid hw
  have HE := Lib.hid he
  have HED := Lib.hid hE
  clear he hE hi hz0 hz1 hz2 hF hw
  go_enter Try.func34, Try.ntmps34
  go_wp2_with (go_at_call 46; refine (degrees_any n (by omega) ao cap E hlen HED.out _ (HE.out.ext ((Keep.refl [] w).alloc _ |>.alloc _))).mono ?_; rintro e w1 ⟨gd, D, rfl, hD, hX, hgd, hRowD⟩)
  have hX2 : Ext w w1 := ((Keep.refl [] w).alloc _ |>.alloc _).transE hX
  have hRun1 : RunAt w1 (w.heap.size + 1) (.slice none 0 0) zeroS zeroS 0 0 := RunAt.ext (by unfold RunAt; rw [heap_alloc2_new]; rfl) hX
  have hT1 : At w1 w.heap.size 0 (runC (.slice none 0 0) zeroS zeroS 0 0) := At.ext (At.whole (t := 39) (by rw [heap_alloc2_old]; rfl)) hX
  have hgd2 : w.heap.size + 1 + 1 ≤ gd := by simpa using hgd
  have hs1 : w.heap.size + 1 + 1 ≤ w1.heap.size := by have := hX.size; simpa using this
  have hgd3 : gd < w1.heap.size := hRowD.lt
  have HX2 := Lib.hid hX2
  have HRun1 := Lib.hid hRun1
  have HT1 := Lib.hid hT1
  have HRowD := Lib.hid hRowD
  have HD := Lib.hid hD
  clear hX hgd hX2 hRun1 hT1 hRowD hD
  go_loopw [10] (fun v wr => ∃ (k : Nat) (sv : Value), k ≤ n ∧ v = .int .u32 k ∧ Keep [w.heap.size + 1] w1 wr ∧ RunAt wr (w.heap.size + 1) sv zeroS zeroS 0 0 ∧ wr.ownsRow w1.heap.size 35 8 sv k (flat stC (startT G k))) (fun v _ => n - (intOf v).toNat)
  case atStart => exact ⟨0, .slice none 0 0, Nat.zero_le _, rfl, Keep.refl _ _, HRun1.out, World.ownsRow_nil _ _ _ _⟩
  case round =>
    obtain ⟨k, sv, hk, rfl, hK, hRun, hOwn⟩ := hrel
    have hkw : w1.heap.size ≤ wr.heap.size := hK.size
    by_cases hlt : k < n
    · have hkk : (k : Int) < (n : Int) := by omega
      have hk32 : (k : Int) < 4294967296 := by omega
      have hlD : k < D.length := by rw [HD.out]; exact hlt
      have hA : At wr gd (k * 2) (dgC D[k]) := (HRowD.out.keep hK (by simp; omega)).at dgC_size hlD
      have hbel : Below N W0 wr := (hK.below (HX2.out.below.mono (by omega) |> fun h => HW.out.trans h) (by omega) (by simp; omega))
      have HA := Lib.hid hA
      have HB := Lib.hid hbel
      have HK := Lib.hid hK
      have HRun := Lib.hid hRun
      have HOwn := Lib.hid hOwn
      clear hA hbel hK hRun hOwn
      go_wp2_with (first | (refine wpList_load_at rfl 115 _ rfl _ rfl HA.out Try.underlying115 rfl i115 ?_) | (go_at_call 47; refine (HF.out.start _ HB.out k D[k].1 D[k].2 (by omega) hk32).mono ?_; rintro e w2 ⟨rfl, hw2⟩) | (refine wpList_store_at rfl 35 _ _ rfl rfl rfl (At.new (stC zeroS) 35 rfl) i35 rfl (stC_one _) ?_) | (go_at_call 15; refine (num_any _ _).mono ?_; rintro e w' ⟨rfl, rfl⟩))
      have hP := keep_wput (w2.alloc (.cells (stC zeroS) 35)) w2.heap.size 0 (stC (G.start k))
      have hEV : Ext wr (wput (w2.alloc (.cells (stC zeroS) 35)) w2.heap.size 0 (stC (G.start k))) := (Ext.trans hw2 (Ext.alloc w2 _) : Ext wr _).trans' hP (by have := hw2.size; simp; omega)
      have hAV : At (wput (w2.alloc (.cells (stC zeroS) 35)) w2.heap.size 0 (stC (G.start k))) w2.heap.size 0 (stC (G.start k)) := (At.new (stC zeroS) 35 rfl).put rfl
      have hwr2 := hw2.size
      change Code.wp _ _ _ _ (wput (w2.alloc (.cells (stC zeroS) 35)) w2.heap.size 0 (stC (G.start k)))
      generalize wput (w2.alloc (.cells (stC zeroS) 35)) w2.heap.size 0 (stC (G.start k)) = V at *
      generalize w2.heap.size = B at *
      clear hP hw2 w2
      have hRV := HRun.out.ext hEV
      have hOV := ownsRow_keep HOwn.out hEV (by simp)
      have hVs : wr.heap.size ≤ V.heap.size := hEV.size
      have c0 := hRV.c0
      have hbV : w.heap.size + 1 < V.heap.size := by omega
      have hBelV : Below N W0 V := HB.out.trans (hEV.below.mono (by omega))
      have HEV := Lib.hid hEV
      have HAV := Lib.hid hAV
      have HRV := Lib.hid hRV
      have HOV := Lib.hid hOV
      have HBV := Lib.hid hBelV
      clear hEV hAV hRV hOV hBelV
      refine wp_region_new 6 0 (by kernel_rfl) (by kernel_rfl) ?_
      simp only [List.take, List.drop]
      iterate 2 (refine wpHead_step (fun K hK => ?_); go_simp; (refine hK _ ?_; clear hK K))
      refine wpHead_load_at rfl 35 _ rfl _ rfl HAV.out.drew Try.underlying35 rfl i35 ?_
      iterate 1 (refine wpHead_step (fun K hK => ?_); go_simp; (refine hK _ ?_; clear hK K))
      refine wpHead_step (fun K hK => ?_); go_simp
      (apply Exists.intro; refine ⟨fun W1 => ?_, hK _ ?_⟩)
      · exact HF.out.words _ (HBV.out.trans ((Ext.trans (Ext.drew V) (nx_ext _ W1)).below.mono (by omega)))
      clear hK K
      refine wpHead_step (fun K hK => ?_); go_simp
      (apply Exists.intro; refine ⟨fun W1 => ?_, hK _ ?_⟩)
      · exact cut_any _ _ hw8.1 hw8.2 _
      clear hK K
      refine wpHead_nil (wpPure_nil ?_)
      refine fOpE_build35 rfl rfl rfl rfl (fun w3 hw3 w4 hw4 => ?_)
      have hE3 : Ext V w3 := Ext.trans (Ext.drew V) hw3
      have hE4 : Ext V w4 := (hE3.trans (Ext.alloc _ _)).trans hw4
      have hNew : At w4 w3.heap.size 0 (stC (cutS (G.start k) G.words)) := At.ext (At.new _ _ rfl) hw4
      have hO4 := ownsRow_keep HOV.out hE4 (by simp)
      have hR4 := HRV.out.ext hE4
      have HE4 := Lib.hid hE4
      have HNew := Lib.hid hNew
      have HO4 := Lib.hid hO4
      have HR4 := Lib.hid hR4
      have hs4 : w1.heap.size ≤ w4.heap.size := by have := hE4.size; omega
      clear hw3 hw4 hE3 hE4 hNew hO4 hR4 c0
      generalize w3.heap.size = C at *
      clear w3
      go_simp
      refine wpList_append_own w4 rfl (.tmp 37) (.tmp 42) 32 rfl w1.heap.size 35 i0 (.agg (stC zeroS)) 8 64 Try.underlying32 HI.out HZ0.out HZ1.out HZ2.out rfl (by omega) sv k (flat stC (startT G k)) rfl HO4.out
        ⟨C, 0, none⟩ 1 1 (stC (cutS (G.start k) G.words)).toList rfl rfl ?_ ?_ (by simp only [maxLen]; omega) (by omega) hs4 ?_
      · intro j u hu
        rw [add_at]
        exact HNew.out.cell (by simpa using hu)
      · intro u hu
        exact (Array.all_eq_true_iff_forall_mem.1 (stC_one (cutS (G.start k) G.words))) u (by simpa using hu)
      intro v' w5 hown5 hgr5 hnil
      clear hnil
      obtain ⟨g5, c5', hv5⟩ : ∃ g5 c5', v' = .slice (some ⟨g5, 0, none⟩) (k + 1) c5' := by
        rcases hown5.2 with ⟨_, h0⟩ | ⟨g5, c5', _, hv, _⟩
        · omega
        · exact ⟨g5, c5', hv⟩
      subst hv5
      have hob : ∀ j, sv.ownBlock = some j → w1.heap.size ≤ j ∧ j < w4.heap.size := HO4.out.lt
      have hK5 : Keep [] w1 w1 := Keep.refl _ _
      have hRun5 : RunAt w5 (w.heap.size + 1) sv zeroS zeroS 0 0 := by
        have h1 := HR4.out
        have hl := h1.lt
        unfold RunAt at h1 ⊢
        rw [hgr5.block _ hl (fun e => by have := (hob _ e.symm).1; omega)]
        exact h1
      have c5 := hRun5.c0
      have f5 := hRun5.frozen 0
      have hKK : Keep [w.heap.size + 1] w1 w5 := (((HK.out.transE HEV.out).transE HE4.out).grown hgr5 (fun j hj => .inr (hob j hj).1))
      have hl5 : w.heap.size + 1 < w5.heap.size := hRun5.lt
      have hown6 : ∀ x, (w5.setCell ⟨w.heap.size + 1, 0, none⟩ x).ownsRow w1.heap.size 35 8 (.slice (some ⟨g5, 0, none⟩) (k + 1) c5') (k + 1) (flat stC (startT G (k + 1))) := fun x => by
        rw [startT_succ, flat_append]
        refine ownsRow_setCell_below ?_ (by show w.heap.size + 1 < _; omega) x
        simpa [flat] using hown5
      have hRun6 := fun x => hRun5.set0 x
      have HKK := Lib.hid hKK
      have HO6 := Lib.hid hown6
      have HR6 := Lib.hid hRun6
      clear hob hK5 hRun5 hKK hown5 hgr5 hown6 hRun6
      go_simp
      go_wp2
      refine nOnly_mk ?_
      go_wp2
      go_roundw
      case rel => exact ⟨k + 1, _, by omega, by go_num, HKK.out.setCell (.inl (by simp)) _, HR6.out _, HO6.out _⟩
      case measure => simp [intOf]; omega
    · have hkn : k = n := by omega
      subst hkn
      have hO := hOwn
      obtain ⟨_, h2⟩ := hO
      rcases h2 with ⟨_, h0⟩ | ⟨g, c, cur, hv, hg, hgh, hgc⟩
      · omega
      have hrowg : Row wr g 35 8 stC (startT G k) := Row.of_own stC_size (by rw [← hv]; exact hOwn) (startT_length G k).symm
      subst hv
      have hglt : g < wr.heap.size := hrowg.lt
      have hbel : Below N W0 wr := (hK.below (HX2.out.below.mono (by omega) |> fun h => HW.out.trans h) (by omega) (by simp; omega))
      have HB := Lib.hid hbel
      have HK := Lib.hid hK
      have HRun := Lib.hid hRun
      have HRow := Lib.hid hrowg
      clear hbel hK hRun hOwn hrowg hgh hgc
      have hRl : RunAt wr (w.heap.size + 1) (.slice (some ⟨g, 0, none⟩) (startT G k).length c) zeroS zeroS 0 0 := by rw [startT_length]; exact HRun.out
      have HRl := Lib.hid hRl
      have hT6 := Lib.hid (HT1.out.keep HK.out (by simp))
      clear hRl
      have hone : (runC (.slice (some ⟨g, 0, none⟩) k c) (foldT G zeroS (startT G k) k) zeroS 0 0).all (·.oneCell') = true := by simp [runC, Value.oneCell']
      have HOne := Lib.hid hone
      clear hone
      go_wp2_with fail
      refine (fold_any HF.out HB.out (by omega) HRl.out HRow.out (by omega) (by omega) (by rw [startT_length]; omega) (Int.le_refl 0)).mono ?_
      rw [startT_length]
      rintro e w6 ⟨rfl, hK6, hRun6⟩
      have HK6 := Lib.hid hK6
      have HRun6 := Lib.hid hRun6
      clear hK6 hRun6
      go_wp2_with (first | (refine wpList_load_at rfl 39 _ rfl _ rfl HRun6.out.whole Try.underlying39 rfl i39 ?_) | (refine wpList_store_at rfl 39 _ _ rfl rfl rfl (hT6.out.keep HK6.out (by simp)) i39 rfl HOne.out ?_))
      have hA6 := (hT6.out.keep HK6.out (by simp)).put (runC_size (.slice (some ⟨g, 0, none⟩) k c) (foldT G zeroS (startT G k) k) zeroS 0 0)
      refine bodyPost_ret (results_at2 rfl _ _ rfl hA6 Try.underlying39 rfl i39) rfl ⟨g, c, rfl, ?_, by omega, ?_⟩
      · have h1 : Keep [w.heap.size + 1, w.heap.size] w1 w6 := (Keep.trans HK.out HK6.out (fun _ h _ => h)).mono (by simp)
        exact Ext.trans' HX2.out (h1.trans (keep_wput _ _ _ _) (fun j hj _ => by simp at hj; simp [hj])) (fun j hj => by simp at hj; omega)
      · exact (HRow.out.keep HK6.out (by simp; omega)).keep (keep_wput _ _ _ _) (by simp; omega)
end Go.Proofs.Ytalpjipopipncaa
