/- The walk of gather. Conditions: those of gather_any. -/
import Derived.Test.YtalpjipopipncaaPlb
import Derived.Test.YtalpjipopipncaaRun
namespace Go.Proofs.Ytalpjipopipncaa
open Go Go.RowKit

set_option maxHeartbeats 2000000 in
theorem gather_any {p : Value} {G : Prg} {N : Nat} {W0 : World} (hF : FlowAt p G N W0) (hS : SinkOK G) {w : World} (hw : Below N W0 w) {b g cap : Nat} {sv : Value} {agg ctl : St} {rounds up : Int}
    (hR : RunAt w b sv agg ctl rounds up) {S : List St} (hrow : Row w g 35 8 stC S) (hbg : b ≠ g) (i : Nat) (hi : i < S.length) (x y : Int) :
    Calls Try.prog 51 #[.pointer (some ⟨b, 0, none⟩), p, .slice (some ⟨g, 0, none⟩) S.length cap, .int .u32 i, .int .u64 x, .int .u64 y] w fun e w' =>
      e = .returned (.tuple #[]) ∧ Keep [b, g] w w' ∧ RunAt w' b sv agg ctl rounds (u64p up) ∧ Row w' g 35 8 stC (S.set i (monS G.ma S[i] G.a x)) := by
  have HF := Lib.hid hF
  have HS := Lib.hid hS
  have HW := Lib.hid hw
  have HR := Lib.hid hR
  have HO := Lib.hid hrow
  have hl0 : b < w.heap.size := hR.lt
  have hgl : g < w.heap.size := hrow.lt
  clear hF hS hw hR hrow
  go_enter Try.func51, Try.ntmps51
  go_wp2_with (go_at_call 45; refine (HF.out.sink _ HW.out).mono ?_; rintro e w1 ⟨rfl, hw1⟩; have c14 := (HR.out.ext hw1).c14; have f14 := (HR.out.ext hw1).frozen 14; have hl1 : b < w1.heap.size := Nat.lt_of_lt_of_le hl0 hw1.size)
  have hlb : b < w1.heap.size := hl1
  have hWl : w.heap.size ≤ w1.heap.size := hw1.size
  generalize hWe : World.alloc _ _ = W
  have hK : Keep [b] w W := by rw [← hWe]; exact ((Keep.transE (Keep.refl [b] w) hw1).setCell (.inl (by simp)) _).alloc _
  have hRun : RunAt W b sv agg ctl rounds (u64p up) := by rw [← hWe]; exact ((HR.out.ext hw1).set14 _).ext (Ext.alloc _ _)
  have hRow : Row W g 35 8 stC S := HO.out.keep hK (by simp; omega)
  have hSk : W.heap[w1.heap.size]? = some (.cells #[.int .i64 G.a, .int .i64 G.ma, .int .i64 G.b, .int .i64 G.mb] 108 (0, 0)) := by
    rw [← hWe]; have := heap_alloc_new (w1.setCell ⟨b, 14, none⟩ (.int .u64 (IntKind.u64.wrap (up + 1)))) (.cells #[.int .i64 G.a, .int .i64 G.ma, .int .i64 G.b, .int .i64 G.mb] 108)
    simpa [World.setCell] using this
  clear hWe
  have hBw : w.heap.size ≤ w1.heap.size := hw1.size
  generalize w1.heap.size = B at *
  clear c14 f14 hw1
  have hBlt : B < W.heap.size := (Array.getElem?_eq_some_iff.1 hSk).1
  have k0 : W.cell? ⟨B, 0, none⟩ = some (.int .i64 G.a) := cell_of_row W B 0 _ _ _ hSk
  have k1 : W.cell? ⟨B, 1, none⟩ = some (.int .i64 G.ma) := cell_of_row W B 1 _ _ _ hSk
  have hii : (i : Int) < (S.length : Int) := by omega
  have hAt : At W.drew g (i * 8) (stC S[i]) := hRow.at stC_size hi
  have HK := Lib.hid hK
  have HRun := Lib.hid hRun
  have HRow := Lib.hid hRow
  have HSk := Lib.hid hSk
  have HAt := Lib.hid hAt
  clear hK hRun hRow hSk hAt
  refine wp_region_row 12 0 (by kernel_rfl) (by kernel_rfl) ?_
  simp only [List.take, List.drop]
  iterate 7 (refine wpHead_step (fun K hK => ?_); go_simp; (refine hK _ ?_; clear hK K))
  refine wpHead_load_at rfl 35 _ rfl _ rfl HAt.out Try.underlying35 rfl i35 ?_
  iterate 3 (refine wpHead_step (fun K hK => ?_); go_simp; (refine hK _ ?_; clear hK K))
  refine wpHead_step (fun K hK => ?_); go_simp
  (apply Exists.intro; refine ⟨fun W1 => ?_, hK _ ?_⟩)
  · exact HS.out.a S[i] x _
  clear hK K
  refine wpHead_nil (wpPure_nil ?_)
  intro w2 hw2
  have hE2 : Ext W w2 := Ext.trans (Ext.drew W) hw2
  have hK2 : Keep [b] w w2 := HK.out.transE hE2
  have hA2 : At w2 g (i * 8) (stC S[i]) := HAt.out.ext hw2
  have hRun2 := HRun.out.ext hE2
  have hRow2 := HRow.out.ext hE2
  have hSk2 := Ext.heap hE2 HSk.out
  clear hw2 hE2 k0 k1 HK HRun HRow HSk HAt
  have HK := Lib.hid hK2
  have HRun := Lib.hid hRun2
  have HRow := Lib.hid hRow2
  have HSk := Lib.hid hSk2
  have HA2 := Lib.hid hA2
  have hBlt2 : B < w2.heap.size := (Array.getElem?_eq_some_iff.1 hSk2).1
  clear hK2 hRun2 hRow2 hSk2 hA2
  go_wp2_with (refine wpList_store_at rfl 35 _ _ rfl rfl rfl HA2.out i35 rfl (stC_one _) ?_)
  refine nOnly_mk ?_
  go_wp2
  have hP := keep_wput w2 g (i * 8) (stC (monS G.ma S[i] G.a x))
  have hK3 : Keep [b, g] w (wput w2 g (i * 8) (stC (monS G.ma S[i] G.a x))) := (HK.out.mono (by simp)).trans hP (fun k hk _ => by simp at hk; simp [hk])
  have hRun3 := HRun.out.keep hP (by simp; exact hbg)
  have hRow3 := HRow.out.put stC_size hi (monS G.ma S[i] G.a x)
  have hSk3 : (wput w2 g (i * 8) (stC (monS G.ma S[i] G.a x))).heap[B]? = _ := hP.heap HSk.out (by simp; omega)
  have hB3 : B < (wput w2 g (i * 8) (stC (monS G.ma S[i] G.a x))).heap.size := by rw [wput_size]; exact hBlt2
  generalize wput w2 g (i * 8) (stC (monS G.ma S[i] G.a x)) = V at *
  clear hP HK HRun HRow HSk HA2 hBlt2
  have hi3 : i < (S.set i (monS G.ma S[i] G.a x)).length := by simpa using hi
  have k2 : V.cell? ⟨B, 2, none⟩ = some (.int .i64 G.b) := cell_of_row V B 2 _ _ _ hSk3
  have k3 : V.cell? ⟨B, 3, none⟩ = some (.int .i64 G.mb) := cell_of_row V B 3 _ _ _ hSk3
  have hAt3 : At V.drew g (i * 8) (stC (monS G.ma S[i] G.a x)) := by
    have := hRow3.at stC_size hi3
    rwa [List.getElem_set_self] at this
  have HK := Lib.hid hK3
  have HRun := Lib.hid hRun3
  have HRow := Lib.hid hRow3
  have HAt := Lib.hid hAt3
  clear hK3 hRun3 hRow3 hSk3 hAt3
  refine wp_region_row 12 0 (by kernel_rfl) (by kernel_rfl) ?_
  simp only [List.take, List.drop]
  iterate 7 (refine wpHead_step (fun K hK => ?_); go_simp; (refine hK _ ?_; clear hK K))
  refine wpHead_load_at rfl 35 _ rfl _ rfl HAt.out Try.underlying35 rfl i35 ?_
  iterate 3 (refine wpHead_step (fun K hK => ?_); go_simp; (refine hK _ ?_; clear hK K))
  refine wpHead_step (fun K hK => ?_); go_simp
  (apply Exists.intro; refine ⟨fun W1 => ?_, hK _ ?_⟩)
  · exact HS.out.b _ y _
  clear hK K
  refine wpHead_nil (wpPure_nil ?_)
  intro w4 hw4
  have hE4 : Ext V w4 := Ext.trans (Ext.drew V) hw4
  have HA4 := Lib.hid (HAt.out.ext hw4)
  have HE4 := Lib.hid hE4
  clear hE4 hw4 k2 k3
  go_wp2_with (refine wpList_store_at rfl 35 _ _ rfl rfl rfl HA4.out i35 rfl (stC_one _) ?_)
  refine nOnly_mk ?_
  go_wp2
  go_end0
  have hP := keep_wput w4 g (i * 8) (stC (monS G.ma S[i] G.a x))
  refine ⟨rfl, (HK.out.transE HE4.out).trans hP (fun k hk _ => by simp at hk; simp [hk]), (HRun.out.ext HE4.out).keep hP (by simp; exact hbg), ?_⟩
  have := (HRow.out.ext HE4.out).put stC_size hi3 (monS G.ma S[i] G.a x)
  rwa [List.set_set] at this
end Go.Proofs.Ytalpjipopipncaa
